/- frame.own: a block's sum; crc.Stream.; frame.Encode: a shard's bytes.; A reader of bytes: take, reading, Take, Bytes, End. -/
import Derived.Test.YtcbebefdbdppdaaGreatM13
import Derived.Test.YtcbebefdbdppdaaGreatM15
import Derived.Test.YtcbebefdbdppdaaGreatM17
import Derived.Test.YtcbebefdbdppdaaGreatM16
import Derived.Lib.AppendStr
import Derived.Laws.IdiomStrings
import Derived.Defers
import Derived.Recover
import Derived.IntWalk
import Derived.BigQuiet
import Derived.Deep.QuietTactic
namespace Go.Proofs.YtcbebefdbdppdaaGreat
open Go.RowKit Go.Maps
theorem crc_more (l bs : List UInt8) : over (crcSum l ^^^ 4294967295) bs ^^^ 4294967295 = crcSum (l ++ bs) := by
  have h : crcSum l ^^^ 4294967295 = over 4294967295 l := by
    unfold crcSum
    rw [Nat.xor_assoc, Nat.xor_self, Nat.xor_zero]
  rw [h, ← over_append]
  rfl
def strmV (l : List UInt8) (c : Nat) : Array Value := #[.int .u32 ((crcSum l : Nat) : Int), .int .u64 (c : Int)]
set_option maxHeartbeats 2000000 in
theorem swrite_any (q : Nat) (l : List UInt8) (ct : Nat) (A : Option Addr) (n c : Nat) (bs : List UInt8) (w : World) (B : Nat) (hx : Reads w B 1 A n (bs.map B8)) (hB : B ≤ w.heap.size) (hbig : n ≤ 1099511627776) (hct : ct ≤ 1099511627776) (hq : Blk w q 259 (strmV l ct)) :
    Calls Tryz.prog 169 #[.pointer (some ⟨q, 0, none⟩), .slice A n c] w fun e w' => e = .returned (.tuple #[]) ∧ Blk w' q 259 (strmV (l ++ bs) (ct + n)) ∧ Touch (· = q) w w' := by
  have HM := Lib.hid (more_any (crcSum l) (crcSum_lt l) A n c bs w B hx hB (by omega))
  rw [crc_more] at HM
  have HQ := Lib.hid hq
  unfold strmV at hq HQ ⊢
  obtain ⟨s, hs⟩ : ∃ s, s = crcSum l := ⟨_, rfl⟩
  obtain ⟨t, ht⟩ : ∃ t, t = crcSum (l ++ bs) := ⟨_, rfl⟩
  rw [← hs] at HM hq HQ
  rw [← ht] at HM ⊢
  have y0 : w.cell? ⟨q, 0, none⟩ = some (.int .u32 (s : Int)) := hq.cell 0
  have a1 : ((n : Int)) % 18446744073709551616 = (n : Int) := by omega
  have a2 : ((ct : Int) + (n : Int)) % 18446744073709551616 = (ct : Int) + (n : Int) := by omega
  clear hs ht hx hq
  go_enter Tryz.func169, Tryz.ntmps169
  go_wp2_with (go_at_call 120; refine HM.out.mono ?_; rintro e w1 ⟨rfl, hb⟩; have hk := HQ.out.below hb HQ.out.lt; have z0 : w1.cell? ⟨q, 0, none⟩ = some (.int .u32 (s : Int)) := hk.cell 0; have z1 : w1.cell? ⟨q, 1, none⟩ = some (.int .u64 (ct : Int)) := hk.cell 1; have zf0 := hk.frozen 0; have zf1 := hk.frozen 1; have HK := Lib.hid hk; have HB := Lib.hid hb; clear hb hk)
  go_end0
  refine ⟨rfl, ?_, ?_⟩
  · have := (HK.out.set_ 0 (.int .u32 (t : Int))).set_ 1 (.int .u64 ((ct : Int) + (n : Int)))
    rw [Int.natCast_add]
    exact this
  · exact ((Touch.of_below HB.out).set (G := (· = q)) rfl _).set (G := (· = q)) rfl _
set_option maxHeartbeats 1000000 in
theorem ssum_any (q : Nat) (l : List UInt8) (ct : Nat) (w : World) (hq : Blk w q 259 (strmV l ct)) :
    Calls Tryz.prog 170 #[.pointer (some ⟨q, 0, none⟩)] w fun e w' => e = .returned (.int .u32 ((crcSum l : Nat) : Int)) ∧ w = w' := by
  unfold strmV at hq
  obtain ⟨s, hs⟩ : ∃ s, s = crcSum l := ⟨_, rfl⟩
  rw [← hs] at hq ⊢
  have y0 : w.cell? ⟨q, 0, none⟩ = some (.int .u32 (s : Int)) := hq.cell 0
  clear hs hq
  go_enter Tryz.func170, Tryz.ntmps170
  go_wp2
  go_ret
  exact ⟨rfl, rfl⟩
set_option maxRecDepth 100000 in
set_option maxHeartbeats 2000000 in
theorem own_any (hd j : Nat) (A : Option Addr) (n c : Nat) (bs : List UInt8) (w : World) (hx : Reads w w.heap.size 1 A n (bs.map B8)) (hh : hd < 4294967296) (hj : j < 4294967296) (hbig : n ≤ 1099511627776) :
    Calls Tryz.prog 123 #[.int .u32 (hd : Int), .int .i64 (j : Int), .slice A n c] w fun e w' => e = .returned (.int .u32 ((ownSum hd j bs : Nat) : Int)) ∧ Below w.heap.size w w' := by
  have HX := Lib.hid hx
  have HN : Hid (n ≤ 1099511627776 ∧ hd < 4294967296 ∧ j < 4294967296) := Lib.hid ⟨hbig, hh, hj⟩
  have hj1 : (j : Int) % 4294967296 = (j : Int) := by omega
  have HO : Hid (ownSum hd j bs = crcSum (leN hd 4 ++ leN j 4 ++ bs)) := Lib.hid rfl
  obtain ⟨R, hR⟩ : ∃ R, R = ownSum hd j bs := ⟨_, rfl⟩
  rw [← hR] at HO ⊢
  clear hx hR
  go_enter Tryz.func123, Tryz.ntmps123
  go_wp2_with fail
  refine (put32_any none 0 0 [] hd _ 0 ⟨rfl, fun h => absurd h (Nat.lt_irrefl 0)⟩ HN.out.2.1 (by omega)).mono ?_
  rintro e w1 ⟨u1, rfl, ho1, hb1⟩
  obtain ⟨e1, c1, rfl, _⟩ := own_shape ho1
  have HO1 := Lib.hid ho1
  have HB1 : Hid (Below w.heap.size w w1) := Lib.hid (((Below.refl _ w).alloc (Nat.le_refl _) _).trans (hb1.mono (by rw [alloc_size]; omega)))
  have HQ1 : Hid (Blk w1 w.heap.size 259 (strmV [] 0)) := Lib.hid ((Blk.new w _ _).below hb1 (by rw [alloc_size]; omega))
  clear ho1 hb1
  go_wp2_with fail
  refine (put32_any e1 4 c1 (leN hd 4) j w1 _ (Reads.of_own HO1.out) HN.out.2.2 (by omega)).mono ?_
  rintro e w2 ⟨u2, rfl, ho2, hb2⟩
  obtain ⟨e2, c2, rfl, _⟩ := own_shape ho2
  have HO2 := Lib.hid ho2
  have HB2 : Hid (Below w.heap.size w w2) := Lib.hid (HB1.out.trans (hb2.mono HB1.out.size))
  have HQ2 : Hid (Blk w2 w.heap.size 259 (strmV [] 0)) := Lib.hid (HQ1.out.below hb2 HQ1.out.lt)
  clear ho2 hb2
  go_wp2_with fail
  refine (swrite_any w.heap.size [] 0 e2 8 c2 (leN hd 4 ++ leN j 4) w2 _ (Reads.of_own HO2.out) (Nat.le_refl _) (by omega) (by omega) HQ2.out).mono ?_
  rintro e w3 ⟨rfl, hq3, ht3⟩
  have HB3 : Hid (Below w.heap.size w w3) := Lib.hid (HB2.out.trans (ht3.below HB2.out.size fun k hk => by rw [hk]; exact Nat.le_refl _))
  have HQ3 := Lib.hid hq3
  clear hq3 ht3
  go_wp2_with fail
  refine (swrite_any w.heap.size _ _ A n c bs w3 w.heap.size (HX.out.below HB3.out) HB3.out.size HN.out.1 (by omega) HQ3.out).mono ?_
  rintro e w4 ⟨rfl, hq4, ht4⟩
  have HB4 : Hid (Below w.heap.size w w4) := Lib.hid (HB3.out.trans (ht4.below HB3.out.size fun k hk => by rw [hk]; exact Nat.le_refl _))
  have HQ4 := Lib.hid hq4
  clear hq4 ht4
  go_wp2_with fail
  refine (ssum_any w.heap.size _ _ w4 HQ4.out).mono ?_
  rintro e w5 ⟨rfl, rfl⟩
  rw [List.nil_append, ← HO.out]
  go_wp2
  go_ret
  exact ⟨rfl, HB4.out⟩
end Go.Proofs.YtcbebefdbdppdaaGreat
namespace Go.Proofs.YtcbebefdbdppdaaGreat
open Go.RowKit Go.Maps Go.Lib
section
variable {P : Program} {w : World}
theorem wpList_append_str {ops : Array Oper} {rest : List Oper} {o : Oper} {a : Act} {Q : Exit → Act → World → Prop} (hgd : o.guard = none) (s x : Operand) (t u : TypeId)
    (ho : o.op = .call { callee := .builtin .append, args := #[s, x], argTypes := #[t, u] })
    (base : Nat) (e : TypeId) (i : TypeInfo) (ht : P.underlying t = some (.slice e)) (hu : P.underlying u = some .string) (hi : P.info? e = some i) (hz : i.zero = some (.int .u8 0)) (hsize : i.size = 1) (hby : i.bytes = 1)
    (v : Value) (n : Nat) (xs : List Value) (hs : a.eval s = v) (hown : w.ownsRow base e 1 v n xs) (str : ByteArray) (hx : a.eval x = .string str) (h63 : n + str.size ≤ maxLen) (hbytes : n + str.size ≤ 140737488355328) (hbase : base ≤ w.heap.size)
    (h : ∀ v' w', w'.ownsRow base e 1 v' (n + str.size) (xs ++ strCells str) → w.grownBy w' v.ownBlock → wpList P ops Q rest (a.put o.dst v') w') : wpList P ops Q (o :: rest) a w :=
  wpList_plain hgd fun _ hK => by
    obtain ⟨v', w', hrun, h2, h3, _⟩ := run_append_own_string (P := P) w base t u o.type e i ht hu hi hz hsize hby v n xs hown str h63 hbytes hbase
    unfold Oper.wp execOp
    simp only [ho, resolve, invoke, builtin, Sem.run_bind, Sem.run_pure, Result.andThen_ok, List.map_toArray, List.map_cons, List.map_nil, hs, hx, hrun]
    exact hK _ _ (h v' w' h2 h3)
end
theorem strCells_key (key : List UInt8) : strCells ⟨key.toArray⟩ = key.map B8 := rfl
theorem conv_str (key : List UInt8) (w : World) : ∃ C w', (convert 9 46 (.string ⟨key.toArray⟩)).run Tryz.prog w = .ok (.slice (some ⟨w.heap.size, 0, none⟩) key.length C) w' ∧ Reads w' (w.heap.size + 1) 1 (some ⟨w.heap.size, 0, none⟩) key.length (key.map B8) ∧ Below w.heap.size w w' ∧ w'.heap.size = w.heap.size + 1 := by
  have hr := run_bytes_of_string (P := Tryz.prog) w 9 46 5 ⟨key.toArray⟩ Tryz.underlying9 Tryz.underlying46 Tryz.underlying5
  refine ⟨_, _, hr, ⟨by rw [List.length_map, Nat.mul_one], fun _ => ⟨_, rfl, Nat.lt_succ_self _, fun j u hu => ?_⟩⟩, (below_drew1 (Below.refl _ w)).alloc (Nat.le_refl _) _, by rw [alloc_size]; rfl⟩
  rw [add_plain, Nat.zero_add, cell_of_row _ w.heap.size j _ _ _ (show (World.alloc w.drew _).heap[w.heap.size]? = _ from World.alloc_heap_new w.drew _)]
  rw [List.getElem?_map] at hu
  obtain ⟨x, hx, rfl⟩ := Option.map_eq_some_iff.1 hu
  have hj : j < key.length := (List.getElem?_eq_some_iff.1 hx).1
  rw [bytesRow_at _ _ j (by simpa using hj)]
  have e : key.toArray[j]'(by simpa using hj) = x := (List.getElem?_eq_some_iff.1 hx).2
  unfold B8
  rw [← e]
def shV (h : Hd) (bv : Value) : Value := .agg ((hdCells h).push bv)
structure BlksAt (w : World) (B : Nat) (A : Option Addr) (n : Nat) (l : List (List UInt8)) : Prop where
  len : l.length = n
  rows : ∃ vs, Reads w B 1 A n vs ∧ ∀ (j : Nat) (x : List UInt8), l[j]? = some x → ∃ A' c', vs[j]? = some (Value.slice A' x.length c') ∧ Reads w B 1 A' x.length (x.map B8)
theorem BlksAt.below {w w' : World} {B n : Nat} {A : Option Addr} {l : List (List UInt8)} (h : BlksAt w B A n l) (hb : Below B w w') : BlksAt w' B A n l := by
  obtain ⟨vs, h1, h2⟩ := h.rows
  exact ⟨h.len, vs, h1.below hb, fun j x hx => by obtain ⟨A', c', e, hr⟩ := h2 j x hx; exact ⟨A', c', e, hr.below hb⟩⟩
theorem BlksAt.at_ {w : World} {B n k : Nat} {A : Option Addr} {l : List (List UInt8)} (h : BlksAt w B A n l) (hk : k < n) : ∃ ad x A' c', A = some ad ∧ l[k]? = some x ∧ w.cell? (ad.add k) = some (Value.slice A' x.length c') ∧ Reads w B 1 A' x.length (x.map B8) := by
  obtain ⟨vs, h1, h2⟩ := h.rows
  obtain ⟨ad, u, rfl, _, hu, hc⟩ := h1.at_ hk
  have hkl : k < l.length := by rw [h.len]; exact hk
  obtain ⟨A', c', e, hr⟩ := h2 k l[k] (List.getElem?_eq_getElem hkl)
  rw [hu] at e
  injection e with e
  exact ⟨ad, l[k], A', c', rfl, List.getElem?_eq_getElem hkl, by rw [hc, e], hr⟩
theorem load_head_in {w : World} {g : Nat} {cs : Array Value} {bv : Value} (hg : Blk w g 31 (cs.push bv)) (hl : cs.size = 16) : (loadVar 28 ⟨g, 0, none⟩).run Tryz.prog w = .ok (.agg cs) w := by
  have h := run_loadVar_part (P := Tryz.prog) (off := 0) 28 hg Tryz.underlying28 headInfo cs.toList (by simpa using hl) (fun j v hv => by
    have hj : j < cs.size := by have := (List.getElem?_eq_some_iff.1 hv).1; simpa using this
    rw [Nat.zero_add, Array.getElem?_push_lt hj]
    rw [Array.getElem?_toList, Array.getElem?_eq_getElem hj] at hv
    exact hv)
  simpa using h
theorem frames_take (s : Nat) : ∀ (l : List (List UInt8)) (j k : Nat) (x : List UInt8), l[k]? = some x → frames s j (l.take (k + 1)) = frames s j (l.take k) ++ x ++ leN (ownSum s (j + k) x) 4
  | [], _, _, _, h => by cases h
  | y :: l, j, 0, x, h => by
    injection h with h
    subst h
    show y ++ leN (ownSum s j y) 4 ++ frames s (j + 1) [] = [] ++ y ++ leN (ownSum s (j + 0) y) 4
    show y ++ leN (ownSum s j y) 4 ++ [] = y ++ leN (ownSum s j y) 4
    rw [List.append_nil]
  | y :: l, j, k + 1, x, h => by
    have ih := frames_take s l (j + 1) k x h
    show y ++ leN (ownSum s j y) 4 ++ frames s (j + 1) (l.take (k + 1)) = y ++ leN (ownSum s j y) 4 ++ frames s (j + 1) (l.take k) ++ x ++ leN (ownSum s (j + (k + 1)) x) 4
    rw [ih, show j + 1 + k = j + (k + 1) by omega]
    simp only [List.append_assoc]
def outL (h : Hd) (l : List (List UInt8)) (k : Nat) : List UInt8 := h.head ++ frames h.sum 0 (l.take k)
theorem outL_step (h : Hd) (l : List (List UInt8)) (k : Nat) (x : List UInt8) (hx : l[k]? = some x) : outL h l (k + 1) = outL h l k ++ x ++ leN (ownSum h.sum k x) 4 := by
  unfold outL
  rw [frames_take h.sum l 0 k x hx, Nat.zero_add]
  simp only [List.append_assoc]
theorem outL_le (h : Hd) (hs : h.st.length = 8) (f : h.Fit) (l : List (List UInt8)) (hl : l.map List.length = h.lens) (k : Nat) : (outL h l k).length ≤ 268500000 := by
  obtain ⟨h1, h2⟩ := fit_lens f
  have h3 : Hd.sumL ((l.take k).map List.length) ≤ 4096 * 65540 := by
    rw [List.map_take, hl]
    exact Nat.le_trans (sumL_le h.lens k 65536 h2) (Nat.mul_le_mul_right _ h1)
  have h4 := f.key
  unfold outL
  rw [List.length_append, Hd.head_length h hs, frames_length]
  omega
theorem blk_small {h : Hd} (f : h.Fit) {l : List (List UInt8)} (hl : l.map List.length = h.lens) {x : List UInt8} (hx : x ∈ l) : x.length ≤ 65536 :=
  (fit_lens f).2 _ (by rw [← hl]; exact List.mem_map_of_mem hx)
set_option maxRecDepth 100000 in
set_option maxHeartbeats 8000000 in
theorem encode_ok (h : Hd) (hw : h.Wf) (f : h.Fit) (l : List (List UInt8)) (hl : l.map List.length = h.lens) (A : Option Addr) (n c : Nat) (w : World) (hb : BlksAt w w.heap.size A n l) :
    Calls Tryz.prog 60 #[shV h (.slice A n c)] w fun e w' => ∃ u, e = .returned (.tuple #[u, .int .i64 0]) ∧ w'.ownsRow w.heap.size 5 1 u (shardBytes h l).length ((shardBytes h l).map B8) ∧ Below w.heap.size w w' := by
  obtain ⟨a0, a1, a2, a3, a4, a5, a6, a7, hst⟩ := lab_eight hw.st
  obtain ⟨K, M, B, S, I, E, C, nu⟩ := f.nums
  have HC := Lib.hid (fun W => fcheck_any h hw W)
  rw [Hd.may_of f] at HC
  have HFS := Lib.hid (fun W => ffirst_any h hw.st f W)
  have HLT := Lib.hid (fun W => flength_any h hw.st f W)
  have HLN := Lib.hid (fun W => flens_any K B S (M : Int) nu.hK nu.hB nu.hS nu.hN W)
  rw [← nu.lens] at HLN
  have e1 := nu.k; have e2 := nu.m; have e3 := nu.b; have e4 := nu.size
  have f4 := f.key
  obtain ⟨s, hs⟩ : ∃ s : ByteArray, s = ⟨h.key.toArray⟩ := ⟨_, rfl⟩
  have hsz : s.size = h.key.length := by rw [hs]; exact size_toBA h.key
  have HH : Hid (hdV h = .agg #[.int .u8 (a0.toNat : Int), .int .u8 (a1.toNat : Int), .int .u8 (a2.toNat : Int), .int .u8 (a3.toNat : Int), .int .u8 (a4.toNat : Int), .int .u8 (a5.toNat : Int), .int .u8 (a6.toNat : Int), .int .u8 (a7.toNat : Int), .int .i64 (K : Int), .int .i64 (M : Int), .int .i64 (B : Int), .string s, .int .i64 (S : Int), .int .i64 h.idx, .int .i64 h.ep, .int .i64 h.cn]) := Lib.hid (by unfold hdV hdCells strV; rw [hst, e1, e2, e3, e4, hs]; rfl)
  have HS17 : Hid (shV h (.slice A n c) = .agg #[.int .u8 (a0.toNat : Int), .int .u8 (a1.toNat : Int), .int .u8 (a2.toNat : Int), .int .u8 (a3.toNat : Int), .int .u8 (a4.toNat : Int), .int .u8 (a5.toNat : Int), .int .u8 (a6.toNat : Int), .int .u8 (a7.toNat : Int), .int .i64 (K : Int), .int .i64 (M : Int), .int .i64 (B : Int), .string s, .int .i64 (S : Int), .int .i64 h.idx, .int .i64 h.ep, .int .i64 h.cn, .slice A n c]) := Lib.hid (by unfold shV hdCells strV; rw [hst, e1, e2, e3, e4, hs]; rfl)
  rw [HH.out] at HC HFS HLT
  rw [HS17.out]
  obtain ⟨CS, hCS⟩ : ∃ CS : Array Value, CS = #[.int .u8 (a0.toNat : Int), .int .u8 (a1.toNat : Int), .int .u8 (a2.toNat : Int), .int .u8 (a3.toNat : Int), .int .u8 (a4.toNat : Int), .int .u8 (a5.toNat : Int), .int .u8 (a6.toNat : Int), .int .u8 (a7.toNat : Int), .int .i64 (K : Int), .int .i64 (M : Int), .int .i64 (B : Int), .string s, .int .i64 (S : Int), .int .i64 h.idx, .int .i64 h.ep, .int .i64 h.cn] := ⟨_, rfl⟩
  rw [← hCS] at HC HFS HLT
  have HCS : Hid (CS.size = 16) := Lib.hid (by rw [hCS]; rfl)
  have HPU : Hid (CS.push (.slice A n c) = #[.int .u8 (a0.toNat : Int), .int .u8 (a1.toNat : Int), .int .u8 (a2.toNat : Int), .int .u8 (a3.toNat : Int), .int .u8 (a4.toNat : Int), .int .u8 (a5.toNat : Int), .int .u8 (a6.toNat : Int), .int .u8 (a7.toNat : Int), .int .i64 (K : Int), .int .i64 (M : Int), .int .i64 (B : Int), .string s, .int .i64 (S : Int), .int .i64 h.idx, .int .i64 h.ep, .int .i64 h.cn, .slice A n c]) := Lib.hid (by rw [hCS]; rfl)
  have hlen : h.lens.length = n := by rw [← hl, List.length_map, hb.len]
  have HOS := Lib.hid (outL_step h l)
  have HOL := Lib.hid (outL_le h hw.st f l hl)
  have HSM : Hid (∀ x, x ∈ l → x.length ≤ 65536) := Lib.hid fun x hx => blk_small f hl hx
  have HEN : Hid (shardBytes h l = outL h l n) := Lib.hid (by
    unfold shardBytes outL
    rw [List.take_of_length_le (by rw [hb.len]; exact Nat.le_refl _)])
  have HLM : Hid (∀ (k : Nat) (x : List UInt8), l[k]? = some x → h.lens[k]? = some x.length) := Lib.hid fun k x hx => by rw [← hl, List.getElem?_map, hx]; rfl
  have HN4 : Hid (n ≤ 4096) := Lib.hid (by rw [← hlen]; exact (fit_lens f).1)
  have HLN2 : Hid (h.len ≤ 268500000) := Lib.hid (hd_len_le f)
  have HKL : Hid (h.key.length ≤ 255 ∧ h.fixed.length = 32 ∧ h.sum < 4294967296 ∧ s = ⟨h.key.toArray⟩ ∧ s.size = h.key.length) := Lib.hid ⟨f4.2, Hd.fixed_length h hw.st, crcSum_lt _, hs, hsz⟩
  have HHD : Hid (outL h l 0 = h.fixed ++ leN (crcSum h.fixed) 4 ++ h.key ++ leN h.sum 4) := Lib.hid (by
    unfold outL
    rw [List.take_zero]
    show h.head ++ [] = _
    rw [List.append_nil]
    rfl)
  have HSU : Hid (h.sum = crcSum (h.fixed ++ h.key)) := Lib.hid rfl
  rw [hlen] at HLN
  obtain ⟨L, hL⟩ : ∃ L, L = h.lens := ⟨_, rfl⟩
  rw [← hL] at HLN HLM
  obtain ⟨LE, hLE⟩ : ∃ LE, LE = h.len := ⟨_, rfl⟩
  rw [← hLE] at HLT HLN2
  obtain ⟨q2, hq2⟩ : ∃ q, q = h.sum := ⟨_, rfl⟩
  rw [← hq2] at HSU HKL HHD HOS
  have HBL := Lib.hid hb
  obtain ⟨i5, hi5, hz0, hz1, hz2⟩ := info_parts byteInfo
  have hmk := fun (W : World) => run_make (P := Tryz.prog) W 46 5 i5 _ Tryz.underlying46 hi5 hz0 .i64 .i64 (0 : Int) (LE : Int) (by decide) (Int.natCast_nonneg _) (by rw [hz2]; have := HLN2.out; omega) (by have := HLN2.out; omega)
  simp only [Int.toNat_natCast, Int.toNat_zero, hz1, Nat.mul_one] at hmk
  have HOW : Hid (∀ (W : World) (b : Nat), b ≤ W.heap.size → (W.alloc (.cells (madeCells (Value.int .u8 0).cells LE) 5)).ownsRow b 5 1 (.slice (some ⟨W.heap.size, 0, none⟩) 0 LE) 0 []) := Lib.hid fun W b hW => by
    refine ⟨rfl, .inr ⟨W.heap.size, LE, _, rfl, hW, Blk.new W _ _, Nat.zero_le _, by have := HLN2.out; unfold maxLen; omega, by rw [size_madeCells, Nat.mul_one], by rw [Nat.zero_mul, List.take_zero]⟩⟩
  have HCV := Lib.hid (conv_str h.key)
  rw [← hs, ← hsz] at HCV
  clear hst nu f e1 e2 e3 e4 hs hsz hl hb hCS hlen hL hLE hq2 hw f4
  obtain ⟨W0, hW0⟩ : ∃ W0, W0 = w.alloc (.cells #[.int .u8 (a0.toNat : Int), .int .u8 (a1.toNat : Int), .int .u8 (a2.toNat : Int), .int .u8 (a3.toNat : Int), .int .u8 (a4.toNat : Int), .int .u8 (a5.toNat : Int), .int .u8 (a6.toNat : Int), .int .u8 (a7.toNat : Int), .int .i64 (K : Int), .int .i64 (M : Int), .int .i64 (B : Int), .string s, .int .i64 (S : Int), .int .i64 h.idx, .int .i64 h.ep, .int .i64 h.cn, .slice A n c] 31) := ⟨_, rfl⟩
  have HK0 : Hid (Blk W0 w.heap.size 31 #[.int .u8 (a0.toNat : Int), .int .u8 (a1.toNat : Int), .int .u8 (a2.toNat : Int), .int .u8 (a3.toNat : Int), .int .u8 (a4.toNat : Int), .int .u8 (a5.toNat : Int), .int .u8 (a6.toNat : Int), .int .u8 (a7.toNat : Int), .int .i64 (K : Int), .int .i64 (M : Int), .int .i64 (B : Int), .string s, .int .i64 (S : Int), .int .i64 h.idx, .int .i64 h.ep, .int .i64 h.cn, .slice A n c]) := Lib.hid (by rw [hW0]; exact Blk.new w _ _)
  have HKP : Hid (Blk W0 w.heap.size 31 (CS.push (.slice A n c))) := Lib.hid (by rw [HPU.out]; exact HK0.out)
  have HW : Hid (Below w.heap.size w W0) := Lib.hid (by rw [hW0]; exact (Below.refl _ w).alloc (Nat.le_refl _) _)
  have hs0 : W0.heap.size = w.heap.size + 1 := by rw [hW0, alloc_size]
  have HEQ := Lib.hid hW0
  clear hW0
  go_enter Tryz.func60, Tryz.ntmps60
  go_wp2_with (refine wpList_load_at rfl 28 _ rfl ⟨w.heap.size, 0, none⟩ rfl (.agg CS) (by have := load_head_in HKP.out HCS.out; rw [HEQ.out] at this; exact this) ?_)
  rw [← HEQ.out]
  refine (HC.out _).mono ?_
  rintro e w1 ⟨rfl, hb1⟩
  have HB1 : Hid (Below (w.heap.size + 1) W0 w1) := Lib.hid (by rw [← hs0]; exact hb1)
  clear hb1
  have y8 : w1.cell? ⟨w.heap.size, 8, none⟩ = some (.int .i64 (K : Int)) := (HB1.out.cell (p := ⟨w.heap.size, 8, none⟩) (Nat.lt_succ_self _)).trans (HK0.out.cell 8)
  have y9 : w1.cell? ⟨w.heap.size, 9, none⟩ = some (.int .i64 (M : Int)) := (HB1.out.cell (p := ⟨w.heap.size, 9, none⟩) (Nat.lt_succ_self _)).trans (HK0.out.cell 9)
  have y10 : w1.cell? ⟨w.heap.size, 10, none⟩ = some (.int .i64 (B : Int)) := (HB1.out.cell (p := ⟨w.heap.size, 10, none⟩) (Nat.lt_succ_self _)).trans (HK0.out.cell 10)
  have y12 : w1.cell? ⟨w.heap.size, 12, none⟩ = some (.int .i64 (S : Int)) := (HB1.out.cell (p := ⟨w.heap.size, 12, none⟩) (Nat.lt_succ_self _)).trans (HK0.out.cell 12)
  go_wp2_with fail
  refine (HLN.out _).mono ?_
  rintro e w2 ⟨v2, rfl, ho2, hb2⟩
  obtain ⟨A2, c2, rfl, _⟩ := own_shape ho2
  have HR2 : Hid (Reads w2 w2.heap.size 1 A2 n (L.map lenV)) := Lib.hid (Reads.of_own ho2)
  have hz1' : w.heap.size + 1 ≤ w1.heap.size := by have := HB1.out.size; omega
  have HB2 : Hid (Below (w.heap.size + 1) W0 w2) := Lib.hid (HB1.out.trans (hb2.mono hz1'))
  clear ho2 hb2 y8 y9 y10 y12
  have y16 : w2.cell? ⟨w.heap.size, 16, none⟩ = some (.slice A n c) := (HB2.out.cell (p := ⟨w.heap.size, 16, none⟩) (Nat.lt_succ_self _)).trans (HK0.out.cell 16)
  go_wp2_with fail
  go_loopw [6, 7, 35] (fun _ _ s35 wr => ∃ k : Nat, k ≤ n ∧ s35 = .int .i64 (k : Int) ∧ wr = w2) (fun _ _ s _ => n - (intOf s).toNat)
  case atStart => exact ⟨0, Nat.zero_le _, rfl, rfl⟩
  case round =>
    obtain ⟨k, hk, rfl, rfl⟩ := hrel
    have hk0 : (0 : Int) ≤ (k : Int) := Int.natCast_nonneg _
    by_cases hlt : k < n
    · have hlt' : (k : Int) < (n : Int) := ltI hlt
      obtain ⟨ad, u, rfl, _, hu, hc⟩ := HR2.out.at_ hlt
      obtain ⟨ad2, x, A', c', hA, hx, hcell, _⟩ := (HBL.out.below (HW.out.trans (HB2.out.mono (Nat.le_succ _)))).at_ hlt
      subst hA
      have hue : u = .int .i64 (x.length : Int) := by
        rw [List.getElem?_map, HLM.out k x hx] at hu
        exact (Option.some.inj hu).symm
      subst hue
      have hk2 := w64k hlt HN4.out
      clear hu hx
      go_wp2_with fail
      go_roundw
      case rel => exact ⟨k + 1, hlt, by rw [hk2]; rfl, trivial⟩
      case measure => rw [hk2]; clear hk2; simp [intOf]; omega
    · obtain rfl : k = n := Nat.le_antisymm hk (Nat.le_of_not_lt hlt)
      clear hk hlt y16
      go_wp2_with (refine wpList_load_at rfl 28 _ rfl ⟨w.heap.size, 0, none⟩ rfl (.agg CS) (load_head_in (HKP.out.below HB2.out (Nat.lt_succ_self _)) HCS.out) ?_)
      refine (HFS.out _).mono ?_
      rintro e w3 ⟨v3, rfl, ho3, hb3⟩
      obtain ⟨A3, c3, rfl, _⟩ := own_shape ho3
      have HR3 : Hid (Reads w3 w3.heap.size 1 A3 32 (h.fixed.map B8)) := Lib.hid (Reads.of_own ho3)
      have h2 : w.heap.size + 1 ≤ wr.heap.size := by have := HB2.out.size; omega
      have HB3 : Hid (Below (w.heap.size + 1) W0 w3) := Lib.hid (HB2.out.trans (hb3.mono h2))
      clear ho3 hb3
      go_wp2_with fail
      refine (sum_any A3 32 c3 h.fixed w3 _ HR3.out (Nat.le_refl _) (by omega)).mono ?_
      rintro e w4 ⟨rfl, hb4⟩
      have h3 : w.heap.size + 1 ≤ w3.heap.size := by have := HB3.out.size; omega
      have HB4 : Hid (Below (w.heap.size + 1) W0 w4) := Lib.hid (HB3.out.trans (hb4.mono h3))
      have HS4 : Hid (Below w3.heap.size w3 w4) := Lib.hid hb4
      clear hb4
      have y11 : w4.cell? ⟨w.heap.size, 11, none⟩ = some (.string s) := (HB4.out.cell (p := ⟨w.heap.size, 11, none⟩) (Nat.lt_succ_self _)).trans (HK0.out.cell 11)
      obtain ⟨C5, w5, hcv, hrd5, hb5, hs5⟩ := HCV.out w4
      have h4 : w.heap.size + 1 ≤ w4.heap.size := by have := HB4.out.size; omega
      have HB5 : Hid (Below (w.heap.size + 1) W0 w5) := Lib.hid (HB4.out.trans (hb5.mono h4))
      have HS5 : Hid (Below w3.heap.size w3 w5) := Lib.hid (HS4.out.trans (hb5.mono HS4.out.size))
      have HQ1 : Hid (crcSum h.fixed < 4294967296) := Lib.hid (crcSum_lt _)
      have HM := Lib.hid (more_any (crcSum h.fixed) HQ1.out _ s.size C5 h.key w5 _ hrd5 (by omega) (by have := HKL.out; omega))
      rw [crc_more, ← HSU.out] at HM
      obtain ⟨q1, hq1⟩ : ∃ q, q = crcSum h.fixed := ⟨_, rfl⟩
      rw [← hq1] at HM HQ1 HHD ⊢
      clear hrd5 hb5 hs5 hq1
      go_wp2_with fail
      refine HM.out.mono ?_
      rintro e w6 ⟨rfl, hb6⟩
      have h5 : w.heap.size + 1 ≤ w5.heap.size := by have := HB5.out.size; omega
      have HB6 : Hid (Below (w.heap.size + 1) W0 w6) := Lib.hid (HB5.out.trans (hb6.mono h5))
      have HS6 : Hid (Below w3.heap.size w3 w6) := Lib.hid (HS5.out.trans (hb6.mono HS5.out.size))
      clear hb6 hcv y11 HM
      go_wp2_with (refine wpList_load_at rfl 28 _ rfl ⟨w.heap.size, 0, none⟩ rfl (.agg CS) (load_head_in (HKP.out.below HB6.out (Nat.lt_succ_self _)) HCS.out) ?_)
      refine (HLT.out _).mono ?_
      rintro e w7 ⟨rfl, hb7⟩
      have h6 : w.heap.size + 1 ≤ w6.heap.size := by have := HB6.out.size; omega
      have HB7 : Hid (Below (w.heap.size + 1) W0 w7) := Lib.hid (HB6.out.trans (hb7.mono h6))
      have HS7 : Hid (Below w3.heap.size w3 w7) := Lib.hid (HS6.out.trans (hb7.mono HS6.out.size))
      have h7 : w.heap.size + 1 ≤ w7.heap.size := by have := HB7.out.size; omega
      have h37 : w3.heap.size ≤ w7.heap.size := HS7.out.size
      clear hb7
      have HRF : Hid (∀ o : Obj, Reads (w7.alloc o) w3.heap.size 1 A3 32 (h.fixed.map B8)) := Lib.hid fun o => (HR3.out.below HS7.out).alloc h37 o
      have HB7A : Hid (∀ o : Obj, Below (w.heap.size + 1) W0 (w7.alloc o)) := Lib.hid fun o => HB7.out.alloc h7 o
      have hone : ∀ bs : List UInt8, ∀ u ∈ bs.map B8, u.oneCell' = true := fun bs u hu => by
        obtain ⟨x, _, rfl⟩ := List.mem_map.1 hu
        rfl
      have HONE := Lib.hid hone
      clear hone
      go_wp2_with (at_builtin; refine wpList_append_any _ rfl _ _ 46 rfl (w.heap.size + 1) 5 i5 _ 1 1 Tryz.underlying46 hi5 hz0 hz1 hz2 rfl (by decide) (.slice (some ⟨w7.heap.size, 0, none⟩) 0 LE) 0 _ rfl (HOW.out w7 _ h7) w3.heap.size A3 32 c3 (h.fixed.map B8) rfl (HRF.out _) (HONE.out _) (by decide) (by decide) (by rw [alloc_size]; omega) ?_; intro v8 w8 hown8 hg8 hat8; obtain ⟨e8, c8, hv8, _⟩ := own_shape hown8; subst hv8; have HO8 := Lib.hid hown8; have HB8 : Hid (Below (w.heap.size + 1) W0 w8) := Lib.hid ((HB7A.out _).grown hg8 (by rw [alloc_size]; omega) (fun i hi => ((HOW.out w7 _ h7).lt i hi).1)); clear hown8 hg8 hat8)
      have h8 : w.heap.size + 1 ≤ w8.heap.size := by have := HB8.out.size; omega
      refine (put32_any none 0 0 [] q1 w8 0 ⟨rfl, fun h => absurd h (Nat.lt_irrefl 0)⟩ HQ1.out (by omega)).mono ?_
      rintro e w9 ⟨u9, rfl, ho9, hb9⟩
      obtain ⟨e9, c9, rfl, _⟩ := own_shape ho9
      have HR9 : Hid (Reads w9 w9.heap.size 1 e9 4 ((leN q1 4).map B8)) := Lib.hid (Reads.of_own ho9)
      have HO9 := Lib.hid (ownsRow_below HO8.out hb9)
      have HB9 : Hid (Below (w.heap.size + 1) W0 w9) := Lib.hid (HB8.out.trans (hb9.mono h8))
      have h9 : w.heap.size + 1 ≤ w9.heap.size := by have := HB9.out.size; omega
      clear ho9 hb9
      go_wp2_with (first
        | (at_builtin; refine wpList_append_any _ rfl _ _ 46 rfl (w.heap.size + 1) 5 i5 _ 1 1 Tryz.underlying46 hi5 hz0 hz1 hz2 rfl (by decide) (.slice e8 (0 + 32) c8) (0 + 32) _ rfl HO9.out w9.heap.size e9 4 c9 ((leN q1 4).map B8) rfl HR9.out (HONE.out _) (by decide) (by decide) h9 ?_; intro v10 w10 hown10 hg10 hat10; obtain ⟨e10, c10, hv10, _⟩ := own_shape hown10; subst hv10; have HO10 := Lib.hid hown10; have HB10 : Hid (Below (w.heap.size + 1) W0 w10) := Lib.hid (HB9.out.grown hg10 h9 (fun i hi => (HO9.out.lt i hi).1)); have h10 : w.heap.size + 1 ≤ w10.heap.size := Nat.le_trans (Nat.le_of_eq hs0.symm) HB10.out.size; have y11 : w10.cell? ⟨w.heap.size, 11, none⟩ = some (.string s) := (HB10.out.cell (p := ⟨w.heap.size, 11, none⟩) (Nat.lt_succ_self _)).trans (HK0.out.cell 11); clear hown10 hg10 hat10)
        | (at_builtin; refine wpList_append_str rfl _ _ 46 9 rfl (w.heap.size + 1) 5 i5 Tryz.underlying46 Tryz.underlying9 hi5 hz0 hz1 hz2 (.slice e10 (0 + 32 + 4) c10) (0 + 32 + 4) _ rfl HO10.out s rfl (by have := HKL.out; unfold maxLen; omega) (by have := HKL.out; omega) h10 ?_; intro v11 w11 hown11 hg11; obtain ⟨e11, c11, hv11, _⟩ := own_shape hown11; subst hv11; have HO11 := Lib.hid hown11; have HB11 : Hid (Below (w.heap.size + 1) W0 w11) := Lib.hid (HB10.out.grown hg11 h10 (fun i hi => (HO10.out.lt i hi).1)); clear hown11 hg11))
      have h11 : w.heap.size + 1 ≤ w11.heap.size := Nat.le_trans (Nat.le_of_eq hs0.symm) HB11.out.size
      refine (put32_any none 0 0 [] q2 w11 0 ⟨rfl, fun h => absurd h (Nat.lt_irrefl 0)⟩ HKL.out.2.2.1 (by omega)).mono ?_
      rintro e w12 ⟨u12, rfl, ho12, hb12⟩
      obtain ⟨e12, c12, rfl, _⟩ := own_shape ho12
      have HR12 : Hid (Reads w12 w12.heap.size 1 e12 4 ((leN q2 4).map B8)) := Lib.hid (Reads.of_own ho12)
      have HO12 := Lib.hid (ownsRow_below HO11.out hb12)
      have HB12 : Hid (Below (w.heap.size + 1) W0 w12) := Lib.hid (HB11.out.trans (hb12.mono h11))
      have h12 : w.heap.size + 1 ≤ w12.heap.size := Nat.le_trans (Nat.le_of_eq hs0.symm) HB12.out.size
      clear ho12 hb12 y11
      go_wp2_with (at_builtin; refine wpList_append_any _ rfl _ _ 46 rfl (w.heap.size + 1) 5 i5 _ 1 1 Tryz.underlying46 hi5 hz0 hz1 hz2 rfl (by decide) (.slice e11 (0 + 32 + 4 + s.size) c11) (0 + 32 + 4 + s.size) _ rfl HO12.out w12.heap.size e12 4 c12 ((leN q2 4).map B8) rfl HR12.out (HONE.out _) (by have := HKL.out; unfold maxLen; omega) (by have := HKL.out; omega) h12 ?_; intro v13 w13 hown13 hg13 hat13; obtain ⟨e13, c13, hv13, _⟩ := own_shape hown13; subst hv13; have HO13 := Lib.hid hown13; have HB13 : Hid (Below (w.heap.size + 1) W0 w13) := Lib.hid (HB12.out.grown hg13 h12 (fun i hi => (HO12.out.lt i hi).1)); have y16 : w13.cell? ⟨w.heap.size, 16, none⟩ = some (.slice A k c) := (HB13.out.cell (p := ⟨w.heap.size, 16, none⟩) (Nat.lt_succ_self _)).trans (HK0.out.cell 16); clear hown13 hg13 hat13)
      have HO14 : Hid (w13.ownsRow (w.heap.size + 1) 5 1 (.slice e13 (outL h l 0).length c13) (outL h l 0).length ((outL h l 0).map B8)) := Lib.hid (by
        have h0 := HO13.out
        have hk := HKL.out
        have hn : (outL h l 0).length = 0 + 32 + 4 + s.size + 4 := by
          rw [HHD.out]
          simp only [List.length_append, leN_length, hk.2.1, hk.2.2.2.2]
        have hm : (outL h l 0).map B8 = [] ++ h.fixed.map B8 ++ (leN q1 4).map B8 ++ strCells s ++ (leN q2 4).map B8 := by
          rw [HHD.out, hk.2.2.2.1, strCells_key, List.nil_append]
          simp only [List.map_append]
        rw [hn, hm]
        exact h0)
      have HEQ13 : Hid ((outL h l 0).length = 0 + 32 + 4 + s.size + 4) := Lib.hid (by
        rw [HHD.out]
        have hk := HKL.out
        simp only [List.length_append, leN_length, hk.2.1, hk.2.2.2.2])
      clear HO13
      go_loopw [11, 12, 13, 83] (fun s11 _ _ s83 wr => ∃ j : Nat, j ≤ k ∧ s83 = .int .i64 (j : Int) ∧ (∃ a d, s11 = .slice a (outL h l j).length d) ∧ wr.ownsRow (w.heap.size + 1) 5 1 s11 (outL h l j).length ((outL h l j).map B8) ∧ Below (w.heap.size + 1) W0 wr) (fun _ _ _ s _ => k - (intOf s).toNat)
      case atStart =>
        have e13' := HEQ13.out
        exact ⟨0, Nat.zero_le _, rfl, ⟨e13, c13, by rw [e13']⟩, by rw [← e13']; exact HO14.out, HB13.out⟩
      case round =>
        obtain ⟨j, hj, rfl, ⟨eo, co, rfl⟩, ho, hbo⟩ := hrel
        have HOo := Lib.hid ho
        have HBo := Lib.hid hbo
        have hzo : w.heap.size + 1 ≤ wr.heap.size := Nat.le_trans (Nat.le_of_eq hs0.symm) hbo.size
        clear ho hbo
        have hj0 : (0 : Int) ≤ (j : Int) := Int.natCast_nonneg _
        by_cases hlt : j < k
        · have hlt' : (j : Int) < (k : Int) := ltI hlt
          obtain ⟨ad2, x, A', c', hA, hx, hcell, hrx⟩ := (HBL.out.below (HW.out.trans (HBo.out.mono (Nat.le_succ _)))).at_ hlt
          subst hA
          have HK2 := Lib.hid (w64k hlt HN4.out)
          have HRX := Lib.hid hrx
          have HXL : Hid (x.length ≤ 65536) := Lib.hid (HSM.out x (List.mem_of_getElem? hx))
          have HSTEP := Lib.hid (HOS.out j x hx)
          have HJ : Hid (j < 4294967296) := Lib.hid (by have := HN4.out; omega)
          have HLO := Lib.hid (HOL.out j)
          have hone := fun bs => HONE.out bs
          clear hone hrx hx
          go_wp2_with (at_builtin; refine wpList_append_any _ rfl _ _ 46 rfl (w.heap.size + 1) 5 i5 _ 1 1 Tryz.underlying46 hi5 hz0 hz1 hz2 rfl (by decide) (.slice eo (outL h l j).length co) (outL h l j).length _ rfl HOo.out w.heap.size A' x.length c' (x.map B8) rfl HRX.out (HONE.out _) (by have := HLO.out; have := HXL.out; unfold maxLen; omega) (by have := HLO.out; have := HXL.out; omega) hzo ?_; intro v14 w14 hown14 hg14 hat14; obtain ⟨e14, c14, hv14, _⟩ := own_shape hown14; subst hv14; have HO15 := Lib.hid hown14; have HB15 : Hid (Below (w.heap.size + 1) W0 w14) := Lib.hid (HBo.out.grown hg14 hzo (fun i hi => (HOo.out.lt i hi).1)); have HG15 : Hid (Below (w.heap.size + 1) wr w14) := Lib.hid ((Below.refl _ wr).grown hg14 hzo (fun i hi => (HOo.out.lt i hi).1)); clear hown14 hg14 hat14)
          have h14 : w.heap.size + 1 ≤ w14.heap.size := Nat.le_trans (Nat.le_of_eq hs0.symm) HB15.out.size
          refine (own_any q2 j A' x.length c' x w14 ((HRX.out.below (HG15.out.mono (Nat.le_succ _))).more (by omega)) HKL.out.2.2.1 HJ.out (by have := HXL.out; omega)).mono ?_
          rintro e w15 ⟨rfl, hb15⟩
          have HO16 := Lib.hid (ownsRow_below HO15.out hb15)
          have HB16 : Hid (Below (w.heap.size + 1) W0 w15) := Lib.hid (HB15.out.trans (hb15.mono h14))
          have h15 : w.heap.size + 1 ≤ w15.heap.size := Nat.le_trans (Nat.le_of_eq hs0.symm) HB16.out.size
          clear hb15
          go_wp2_with fail
          refine (put32_any none 0 0 [] (ownSum q2 j x) w15 0 ⟨rfl, fun h => absurd h (Nat.lt_irrefl 0)⟩ (ownSum_lt _ _ _) (by omega)).mono ?_
          rintro e w16 ⟨u16, rfl, ho16, hb16⟩
          obtain ⟨e16, c16, rfl, _⟩ := own_shape ho16
          have HR16 : Hid (Reads w16 w16.heap.size 1 e16 4 ((leN (ownSum q2 j x) 4).map B8)) := Lib.hid (Reads.of_own ho16)
          have HO17 := Lib.hid (ownsRow_below HO16.out hb16)
          have HB17 : Hid (Below (w.heap.size + 1) W0 w16) := Lib.hid (HB16.out.trans (hb16.mono h15))
          have h16 : w.heap.size + 1 ≤ w16.heap.size := Nat.le_trans (Nat.le_of_eq hs0.symm) HB17.out.size
          clear ho16 hb16
          go_wp2_with (at_builtin; refine wpList_append_any _ rfl _ _ 46 rfl (w.heap.size + 1) 5 i5 _ 1 1 Tryz.underlying46 hi5 hz0 hz1 hz2 rfl (by decide) (.slice e14 ((outL h l j).length + x.length) c14) ((outL h l j).length + x.length) _ rfl HO17.out w16.heap.size e16 4 c16 ((leN (ownSum q2 j x) 4).map B8) rfl HR16.out (HONE.out _) (by have := HLO.out; have := HXL.out; unfold maxLen; omega) (by have := HLO.out; have := HXL.out; omega) h16 ?_; intro v17 w17 hown17 hg17 hat17; obtain ⟨e17, c17, hv17, _⟩ := own_shape hown17; subst hv17; have HO18 := Lib.hid hown17; have HB18 : Hid (Below (w.heap.size + 1) W0 w17) := Lib.hid (HB17.out.grown hg17 h16 (fun i hi => (HO17.out.lt i hi).1)); clear hown17 hg17 hat17)
          have HLN : (outL h l (j + 1)).length = (outL h l j).length + x.length + 4 := by
            rw [HSTEP.out, List.length_append, List.length_append, leN_length]
          go_roundw
          case rel =>
            refine ⟨j + 1, hlt, by rw [HK2.out]; rfl, ⟨e17, c17, by rw [HLN]⟩, ?_, HB18.out⟩
            rw [HLN, HSTEP.out, List.map_append, List.map_append]
            exact HO18.out
          case measure => rw [HK2.out]; simp [intOf]; omega
        · obtain rfl : j = k := Nat.le_antisymm hj (Nat.le_of_not_lt hlt)
          go_wp2_with fail
          go_ret2
          refine ⟨_, rfl, ?_, HW.out.trans (HBo.out.mono (Nat.le_succ _))⟩
          rw [HEN.out]
          exact ownsRow_base_a HOo.out (Nat.le_succ _)
end Go.Proofs.YtcbebefdbdppdaaGreat
namespace Go.Proofs.YtcbebefdbdppdaaGreat
open Go.RowKit Go.Maps
theorem must_any (e : Int) (w : World) : Calls Tryz.prog 204 #[.bool true, .int .i64 e] w fun e w' => e = .returned (.tuple #[]) ∧ w' = w := by
  go_enter Tryz.func204, Tryz.ntmps204
  go_wp2
  go_end0
  exact ⟨rfl, rfl⟩
set_option maxRecDepth 100000 in
set_option maxHeartbeats 4000000 in
theorem take_any (r g n c p m : Nat) (w : World) (h : Blk w r 286 #[.slice (some ⟨g, 0, none⟩) n c, .int .i64 (p : Int), .int .i64 0]) (hp : p + m ≤ n) (hnc : n ≤ c) (hn : n ≤ 1000000) (hm : 0 < m) :
    Calls Tryz.prog 205 #[.pointer (some ⟨r, 0, none⟩), .int .u64 (m : Int)] w fun e w' => e = .returned (.slice (some ⟨g, p, none⟩) m (c - p)) ∧ ∃ k, w' = (w.drewN k).setCell ⟨r, 1, none⟩ (.int .i64 ((p + m : Nat) : Int)) := by
  have f0 := h.cell 0
  have f1 := h.cell 1
  have f2 := h.cell 2
  have ff := h.frozen
  have hw1 : wrap64 ((n : Int) - p) = (n : Int) - p := IntWalk.wrap64_in _ (by omega)
  have hw2 : wrap64 ((p : Int) + m) = ((p + m : Nat) : Int) := by rw [IntWalk.wrap64_in _ (by omega)]; rfl
  have hw3 : ((n : Int) - p) % 18446744073709551616 = (n : Int) - p := by omega
  have hle : (m : Int) ≤ (n : Int) - p := by omega
  have hw4 : wrap64 (m : Int) = (m : Int) := IntWalk.wrap64_in _ (by omega)
  have hb1 : (0 : Int) ≤ (p : Int) := Int.natCast_nonneg _
  have hb2 : (p : Int) ≤ ((p + m : Nat) : Int) := by omega
  have hb3 : ((p + m : Nat) : Int) ≤ (c : Int) := by omega
  have hpm : p + m - p = m := by omega
  clear h
  go_enter Tryz.func205, Tryz.ntmps205
  go_wp2_with fail
  go_quiet ((go_at_call 204; refine Calls.quiet_of_same (must_any _ _)))
  go_wp2_with fail
  go_quiet (fail)
  go_wp2
  go_ret
  refine ⟨?_, _, rfl⟩
  show Ending.returned (.slice _ (p + m - p) _) = _
  rw [hpm]
set_option maxRecDepth 100000 in
theorem rescue_idle (a b : Addr) (w : World) :
    CallsD Tryz.prog 223 #[.pointer (some a), .pointer (some b)] .returning w fun e u' w' => e = .returned (.tuple #[]) ∧ u' = .returning ∧ w' = w := by
  have hta : ∀ W : World, (Instr.typeAssert .nilIface 20 41 true).run Tryz.prog W = .ok (.tuple #[.int .i64 0, .bool false]) W := fun _ => by kernel_rfl
  refine callsD_of_wpS Tryz.func223 rfl fun c₀ cs hu => ?_
  apply wpS_seq
  apply wpS_region
  simp [wpOpsS, go_sem, recoverD, hu, hta, Tryz.ntmps223, Exit.thenS]
  apply wpS_seq
  apply wpS_region
  simp [wpOpsS, go_sem, Exit.thenS]
  refine wpS_cond (t := false) (by simp [Act.eval]) ?_
  simp only [Bool.false_eq_true, if_false]
  refine wpS_of_wp (wp_skip ?_)
  cases c₀
  simp_all [bodyPostS, results, Tryz.results223]
end Go.Proofs.YtcbebefdbdppdaaGreat

/- frame.open: what bytes say of a shard's head.; frame.open, where length and beginning are right.; frame.open of any bytes; ParseHead. -/
import Derived.Test.YtcbebefdbdppdaaGreatM18
import Derived.Test.YtcbebefdbdppdaaGreatM19
import Derived.Stop.BytesEq
import Derived.Laws.StructEq
import Derived.Deep.RegionHeld3
import Derived.Deep.DeepCutAuto
namespace Go.Proofs.YtcbebefdbdppdaaGreat
open Go.RowKit Go.Maps
namespace Hd
def openH (b : List UInt8) : Hd := if openE b = 0 then ofB b else zero
def openS (b : List UInt8) : Nat := if openE b = 0 then (ofB b).sum else 0
end Hd
theorem open_no {b : List UInt8} {x : Int} (h : Hd.openE b = x) (hx : x ≠ 0 := by decide) : (.tuple #[hdV (Hd.openH b), .int .u32 ((Hd.openS b : Nat) : Int), .int .i64 (Hd.openE b)] : Value) = .tuple #[.agg #[.int .u8 0, .int .u8 0, .int .u8 0, .int .u8 0, .int .u8 0, .int .u8 0, .int .u8 0, .int .u8 0, .int .i64 0, .int .i64 0, .int .i64 0, .string { data := #[] }, .int .i64 0, .int .i64 0, .int .i64 0, .int .i64 0], .int .u32 0, .int .i64 x] := by
  unfold Hd.openH Hd.openS
  rw [if_neg (by omega), if_neg (by omega), h]
  rfl
theorem magic_neq (a b c d : UInt8) (W : World) : (binOp .neq 253 (.agg #[.int .u8 (a.toNat : Int), .int .u8 (b.toNat : Int), .int .u8 (c.toNat : Int), .int .u8 (d.toNat : Int)]) (.agg #[.int .u8 67, .int .u8 82, .int .u8 78, .int .u8 2])).run Tryz.prog W = .ok (.bool (!([a, b, c, d] == Hd.magic))) W := by
  rw [run_neq_struct]
  have h := run_equalIn_bytes (P := Tryz.prog) W 9998 253 5 4 Tryz.underlying253 Tryz.underlying5 (fun w => by kernel_rfl) [a, b, c, d] Hd.magic rfl rfl
  exact congrArg (fun r => Result.andThen r _) h
theorem array_n4 (a : Addr) (n c : Nat) (h : 4 ≤ n) (W : World) : (Instr.arrayAt 253 (.slice (some a) n c)).run Tryz.prog W = .ok (.pointer (some a)) W := by
  have hn : ¬ n < 4 := by omega
  simp [Instr.arrayAt, run_underlying Tryz.underlying253, hn]
theorem array8 (a : Addr) (c : Nat) (W : World) : (Instr.arrayAt 22 (.slice (some a) 8 c)).run Tryz.prog W = .ok (.pointer (some a)) W := by kernel_rfl
theorem reads_drop {w : World} {B g n j o : Nat} {xs : List Value} (h : Reads w B 1 (some ⟨g, o, none⟩) n xs) (hj : j < n) : Reads w B 1 (some ⟨g, o + j, none⟩) (n - j) (xs.drop j) := by
  refine ⟨by rw [List.length_drop, h.1]; omega, fun _ => ⟨_, rfl, ?_, fun i u hu => ?_⟩⟩
  · obtain ⟨ad, e, hb, _⟩ := h.2 (by omega)
    injection e with e; subst e; exact hb
  · obtain ⟨ad, e, hb, hc⟩ := h.2 (by omega)
    injection e with e; subst e
    rw [List.getElem?_drop] at hu
    have := hc (j + i) u hu
    rw [add_plain] at this
    rw [add_plain, Nat.add_assoc]; exact this
theorem reads_take {w : World} {B n j : Nat} {A : Option Addr} {xs : List Value} (h : Reads w B 1 A n xs) (hj : j ≤ n) : Reads w B 1 A j (xs.take j) := by
  refine ⟨by rw [List.length_take, h.1]; omega, fun h0 => ?_⟩
  obtain ⟨ad, e, hb, hc⟩ := h.2 (by omega)
  refine ⟨ad, e, hb, fun i u hu => hc i u ?_⟩
  rw [List.getElem?_take] at hu
  split at hu
  · exact hu
  · cases hu
theorem reads_cells {w : World} {B g n : Nat} {xs : List Value} (h : Reads w B 1 (some ⟨g, 0, none⟩) n xs) {j : Nat} {u : Value} (hu : xs[j]? = some u) : w.cell? ⟨g, j, none⟩ = some u ∧ g < B := by
  have hj : j < n := by have := (List.getElem?_eq_some_iff.1 hu).1; rw [h.1] at this; omega
  obtain ⟨ad, e, hb, hc⟩ := h.2 (by omega)
  injection e with e; subst e
  have := hc j u hu
  rw [add_plain, Nat.zero_add] at this
  exact ⟨this, hb⟩
theorem unle_bd (l : List UInt8) (p m : Nat) : unle ((l.drop p).take m) < 256 ^ m := Nat.lt_of_lt_of_le (unle_lt _) (Nat.pow_le_pow_right (by decide) (by rw [List.length_take]; omega))
theorem wrap_u32 (q : Nat) (h : q < 4294967296) : wrap64 (q : Int) = (q : Int) := IntWalk.wrap64_in _ (by omega)
theorem len18 {l : List UInt8} (h : l.length = 18) : ∃ b0 b1 b2 b3 b4 b5 b6 b7 b8 b9 b10 b11 b12 b13 b14 b15 b16 b17, l = [b0, b1, b2, b3, b4, b5, b6, b7, b8, b9, b10, b11, b12, b13, b14, b15, b16, b17] := by
  match l, h with
  | [b0, b1, b2, b3, b4, b5, b6, b7, b8, b9, b10, b11, b12, b13, b14, b15, b16, b17], _ => exact ⟨b0, b1, b2, b3, b4, b5, b6, b7, b8, b9, b10, b11, b12, b13, b14, b15, b16, b17, rfl⟩
theorem len36 {l : List UInt8} (h : l.length = 36) : ∃ b0 b1 b2 b3 b4 b5 b6 b7 b8 b9 b10 b11 b12 b13 b14 b15 b16 b17 b18 b19 b20 b21 b22 b23 b24 b25 b26 b27 b28 b29 b30 b31 b32 b33 b34 b35, l = [b0, b1, b2, b3, b4, b5, b6, b7, b8, b9, b10, b11, b12, b13, b14, b15, b16, b17, b18, b19, b20, b21, b22, b23, b24, b25, b26, b27, b28, b29, b30, b31, b32, b33, b34, b35] := by
  obtain ⟨b0, b1, b2, b3, b4, b5, b6, b7, b8, b9, b10, b11, b12, b13, b14, b15, b16, b17, e1⟩ := len18 (l := l.take 18) (by rw [List.length_take]; omega)
  obtain ⟨b18, b19, b20, b21, b22, b23, b24, b25, b26, b27, b28, b29, b30, b31, b32, b33, b34, b35, e2⟩ := len18 (l := l.drop 18) (by rw [List.length_drop]; omega)
  refine ⟨b0, b1, b2, b3, b4, b5, b6, b7, b8, b9, b10, b11, b12, b13, b14, b15, b16, b17, b18, b19, b20, b21, b22, b23, b24, b25, b26, b27, b28, b29, b30, b31, b32, b33, b34, b35, ?_⟩
  rw [← List.take_append_drop 18 l, e1, e2]
  rfl
theorem cons36 {bs : List UInt8} (h : 36 ≤ bs.length) : ∃ b0 b1 b2 b3 b4 b5 b6 b7 b8 b9 b10 b11 b12 b13 b14 b15 b16 b17 b18 b19 b20 b21 b22 b23 b24 b25 b26 b27 b28 b29 b30 b31 b32 b33 b34 b35 t, bs = b0 :: b1 :: b2 :: b3 :: b4 :: b5 :: b6 :: b7 :: b8 :: b9 :: b10 :: b11 :: b12 :: b13 :: b14 :: b15 :: b16 :: b17 :: b18 :: b19 :: b20 :: b21 :: b22 :: b23 :: b24 :: b25 :: b26 :: b27 :: b28 :: b29 :: b30 :: b31 :: b32 :: b33 :: b34 :: b35 :: t := by
  obtain ⟨b0, b1, b2, b3, b4, b5, b6, b7, b8, b9, b10, b11, b12, b13, b14, b15, b16, b17, b18, b19, b20, b21, b22, b23, b24, b25, b26, b27, b28, b29, b30, b31, b32, b33, b34, b35, e⟩ := len36 (l := bs.take 36) (by rw [List.length_take]; omega)
  refine ⟨b0, b1, b2, b3, b4, b5, b6, b7, b8, b9, b10, b11, b12, b13, b14, b15, b16, b17, b18, b19, b20, b21, b22, b23, b24, b25, b26, b27, b28, b29, b30, b31, b32, b33, b34, b35, bs.drop 36, ?_⟩
  have h1 := (List.take_append_drop 36 bs).symm
  rw [e] at h1
  exact h1
theorem hd_of_parts {bs : List UInt8} (h : 36 ≤ bs.length) : Hd.ofB bs = ⟨(((bs.drop 4).take 32).drop 0).take 8, (unle ((((bs.drop 4).take 32).drop 8).take 1) : Int), (unle ((((bs.drop 4).take 32).drop 9).take 1) : Int), (unle ((((bs.drop 4).take 32).drop 10).take 4) : Int), (bs.drop 36).take (Hd.keyLen bs), (unle ((((bs.drop 4).take 32).drop 14).take 4) : Int), (unle ((((bs.drop 4).take 32).drop 18).take 1) : Int), (unle ((((bs.drop 4).take 32).drop 19).take 4) : Int), (unle ((((bs.drop 4).take 32).drop 23).take 4) : Int)⟩
    ∧ Hd.keyLen bs = unle ((((bs.drop 4).take 32).drop 27).take 1) ∧ unle ((bs.drop 32).take 4) = unle ((((bs.drop 4).take 32).drop 28).take 4) := by
  obtain ⟨b0, b1, b2, b3, b4, b5, b6, b7, b8, b9, b10, b11, b12, b13, b14, b15, b16, b17, b18, b19, b20, b21, b22, b23, b24, b25, b26, b27, b28, b29, b30, b31, b32, b33, b34, b35, t, rfl⟩ := cons36 h
  exact ⟨rfl, rfl, rfl⟩
theorem open_fixed {bs : List UInt8} (h : Hd.openE bs = 0) : (Hd.ofB bs).fixed = bs.take 32 ∧ (Hd.ofB bs).sum = crcSum (bs.take 32 ++ (bs.drop 36).take (Hd.keyLen bs)) ∧ (Hd.ofB bs).may = 0 ∧ 40 + Hd.keyLen bs ≤ bs.length ∧ (Hd.ofB bs).key.length = Hd.keyLen bs ∧ (Hd.ofB bs).st.length = 8 := by
  unfold Hd.openE at h
  split at h
  · cases h
  · rename_i h1
    split at h
    · cases h
    · rename_i h2
      split at h
      · cases h
      · split at h
        · cases h
        · rename_i h4
          split at h
          · cases h
          · split at h
            · cases h
            · rename_i h6
              have hm : (Hd.ofB bs).may = 0 := by
                by_cases e : (Hd.ofB bs).may = 0
                · exact e
                · exact absurd e h6
              have hkl : (Hd.ofB bs).key.length = Hd.keyLen bs := by
                show ((bs.drop 36).take (Hd.keyLen bs)).length = _
                rw [List.length_take, List.length_drop]; omega
              have hf : (Hd.ofB bs).fixed = bs.take 32 := by
                have hk := hkl
                have h2' : bs.take 4 = Hd.magic := by
                  by_cases e : bs.take 4 = Hd.magic
                  · exact e
                  · exact absurd e h2
                clear hkl h6 h4 hm h
                obtain ⟨b0, b1, b2, b3, b4, b5, b6, b7, b8, b9, b10, b11, b12, b13, b14, b15, b16, b17, b18, b19, b20, b21, b22, b23, b24, b25, b26, b27, b28, b29, b30, b31, b32, b33, b34, b35, t, rfl⟩ := cons36 (show 36 ≤ bs.length by omega)
                unfold Hd.fixed
                rw [hk, ← h2']
                have e4 : ∀ a b c d : UInt8, leN (unle [a, b, c, d]) 4 = [a, b, c, d] := fun a b c d => leN_unle [a, b, c, d]
                have e1 : ∀ x : UInt8, UInt8.ofNat ((x.toNat : Nat) : Int).toNat = x := fun x => ofNat_getD x
                show [b0, b1, b2, b3] ++ [b4, b5, b6, b7, b8, b9, b10, b11] ++ [UInt8.ofNat ((b12.toNat : Nat) : Int).toNat, UInt8.ofNat ((b13.toNat : Nat) : Int).toNat] ++ leN (((unle [b14, b15, b16, b17] : Nat) : Int).toNat) 4 ++ leN (((unle [b18, b19, b20, b21] : Nat) : Int).toNat) 4 ++ [UInt8.ofNat ((b22.toNat : Nat) : Int).toNat] ++ leN (((unle [b23, b24, b25, b26] : Nat) : Int).toNat) 4 ++ leN (((unle [b27, b28, b29, b30] : Nat) : Int).toNat) 4 ++ [UInt8.ofNat b31.toNat] = _
                simp only [Int.toNat_natCast, e4, UInt8.ofNat_toNat]
                rfl
              refine ⟨hf, ?_, hm, by omega, hkl, by show ((bs.drop 4).take 8).length = 8; rw [List.length_take, List.length_drop]; omega⟩
              show crcSum ((Hd.ofB bs).fixed ++ (Hd.ofB bs).key) = _
              rw [hf]
              rfl
theorem open_cut {bs : List UInt8} (h : bs.length < 36) : Hd.openE bs = 70 := by unfold Hd.openE; rw [if_pos h]
theorem open_mag {bs : List UInt8} (h : 36 ≤ bs.length) (h2 : bs.take 4 ≠ Hd.magic) : Hd.openE bs = 80 := by unfold Hd.openE; rw [if_neg (by omega), if_pos h2]
theorem open_sum {bs : List UInt8} (h : 36 ≤ bs.length) (h2 : bs.take 4 = Hd.magic) (h3 : crcSum (bs.take 32) ≠ unle ((bs.drop 32).take 4)) : Hd.openE bs = 82 := by unfold Hd.openE; rw [if_neg (by omega), if_neg (fun e => e h2), if_pos h3]
theorem open_cut2 {bs : List UInt8} (h : 36 ≤ bs.length) (h2 : bs.take 4 = Hd.magic) (h3 : crcSum (bs.take 32) = unle ((bs.drop 32).take 4)) (h4 : bs.length < 40 + Hd.keyLen bs) : Hd.openE bs = 70 := by unfold Hd.openE; rw [if_neg (by omega), if_neg (fun e => e h2), if_neg (fun e => e h3), if_pos h4]
theorem open_sum2 {bs : List UInt8} (h2 : bs.take 4 = Hd.magic) (h3 : crcSum (bs.take 32) = unle ((bs.drop 32).take 4)) (h4 : 40 + Hd.keyLen bs ≤ bs.length) (h5 : unle ((bs.drop (36 + Hd.keyLen bs)).take 4) ≠ crcSum (bs.take 32 ++ (bs.drop 36).take (Hd.keyLen bs))) : Hd.openE bs = 82 := by unfold Hd.openE; rw [if_neg (by omega), if_neg (fun e => e h2), if_neg (fun e => e h3), if_neg (by omega), if_pos h5]
theorem open_may {bs : List UInt8} (h2 : bs.take 4 = Hd.magic) (h3 : crcSum (bs.take 32) = unle ((bs.drop 32).take 4)) (h4 : 40 + Hd.keyLen bs ≤ bs.length) (h5 : unle ((bs.drop (36 + Hd.keyLen bs)).take 4) = crcSum (bs.take 32 ++ (bs.drop 36).take (Hd.keyLen bs))) : Hd.openE bs = if (Hd.ofB bs).may ≠ 0 then 81 else 0 := by unfold Hd.openE; rw [if_neg (by omega), if_neg (fun e => e h2), if_neg (fun e => e h3), if_neg (by omega), if_neg (fun e => e h5)]
theorem open_ok {bs : List UInt8} (h : Hd.openE bs = 0) : (.tuple #[hdV (Hd.openH bs), .int .u32 ((Hd.openS bs : Nat) : Int), .int .i64 (Hd.openE bs)] : Value) = .tuple #[hdV (Hd.ofB bs), .int .u32 ((crcSum (bs.take 32 ++ (bs.drop 36).take (Hd.keyLen bs)) : Nat) : Int), .int .i64 0] := by
  unfold Hd.openH Hd.openS
  rw [if_pos h, if_pos h, h, (open_fixed h).2.1]
theorem results_cell3 {fn : Func} {t a b c : Nat} (h : fn.results = #[.cell a t, .tmp b, .tmp c]) (tmps : Array Value) (ad : Addr) (ha : tmps.getD a undef = .pointer (some ad)) (v : Value) (P : Program) (w : World) (hl : (loadVar t ad).run P w = .ok v w) :
    (results fn tmps).run P w = .ok (.tuple #[v, tmps.getD b undef, tmps.getD c undef]) w := by
  have ha' : tmps[a]?.getD undef = .pointer (some ad) := by simpa using ha
  simp [results, h, ha', asAddr, hl]
theorem results_cell2 {fn : Func} {t a b : Nat} (h : fn.results = #[.cell a t, .tmp b]) (tmps : Array Value) (ad : Addr) (ha : tmps.getD a undef = .pointer (some ad)) (v : Value) (P : Program) (w : World) (hl : (loadVar t ad).run P w = .ok v w) :
    (results fn tmps).run P w = .ok (.tuple #[v, tmps.getD b undef]) w := by
  have ha' : tmps[a]?.getD undef = .pointer (some ad) := by simpa using ha
  simp [results, h, ha', asAddr, hl]
def zeroHd : Array Value := #[.int .u8 0, .int .u8 0, .int .u8 0, .int .u8 0, .int .u8 0, .int .u8 0, .int .u8 0, .int .u8 0, .int .i64 0, .int .i64 0, .int .i64 0, .string { data := #[] }, .int .i64 0, .int .i64 0, .int .i64 0, .int .i64 0]
theorem store_zero {w : World} {R : Nat} {cur : Array Value} (h : Blk w R 28 cur) (hs : cur.size = 16) : ∃ w', (storeVar 28 ⟨R, 0, none⟩ (.agg zeroHd)).run Tryz.prog w = .ok () w' ∧ Blk w' R 28 zeroHd ∧ Touch (· = R) w w' ∧ w'.heap.size = w.heap.size :=
  run_storeVar_whole 28 h (by kernel_rfl) (by rw [hs]; rfl) (by
    have h1 : zeroHd.toList.all (fun v => v.oneCell') = true := by kernel_rfl
    exact fun v hv => List.all_eq_true.1 h1 v hv)
set_option maxRecDepth 100000 in
set_option maxHeartbeats 4000000 in
theorem open_short (A : Option Addr) (n c : Nat) (bs : List UInt8) (w : World) (hn : n < 36) (hl : bs.length = n) : Calls Tryz.prog 129 #[.slice A n c] w fun e w' => e = .returned (.tuple #[hdV (Hd.openH bs), .int .u32 ((Hd.openS bs : Nat) : Int), .int .i64 (Hd.openE bs)]) ∧ Below w.heap.size w w' := by
  have hn' : (n : Int) < 36 := by omega
  rw [open_no (open_cut (bs := bs) (by omega))]
  clear hn hl
  obtain ⟨W0, hW0⟩ : ∃ W0, W0 = w.alloc (.cells zeroHd 28) := ⟨_, rfl⟩
  have hk0 : Blk W0 w.heap.size 28 zeroHd := by rw [hW0]; exact Blk.new _ _ _
  obtain ⟨W1, hrun, hk1, ht1, _⟩ := store_zero hk0 rfl
  go_enter Tryz.func129, Tryz.ntmps129
  go_wp2_with (refine wpList_store_at rfl 28 _ _ rfl ⟨w.heap.size, 0, none⟩ rfl (.agg zeroHd) rfl W1 (by rw [hW0] at hrun; exact hrun) ?_)
  have hld := load_head hk1 rfl
  refine bodyPost_ret (v := .tuple #[.agg zeroHd, .int .u32 0, .int .i64 70]) (results_cell3 Tryz.results129 _ ⟨w.heap.size, 0, none⟩ rfl (.agg zeroHd) _ _ hld) rfl ⟨rfl, ?_⟩
  exact (Below.trans (by rw [hW0]; exact (Below.refl _ w).alloc (Nat.le_refl _) _) (ht1.below (by rw [hW0, alloc_size]; exact Nat.le_succ _) (fun k hk => Nat.le_of_eq hk.symm)))
set_option maxRecDepth 100000 in
set_option maxHeartbeats 4000000 in
theorem open_magic (g n c : Nat) (bs : List UInt8) (w : World) (B : Nat) (hx : Reads w B 1 (some ⟨g, 0, none⟩) n (bs.map B8)) (hB : B ≤ w.heap.size) (hn : 36 ≤ n) (hc : n ≤ c) (hM : bs.take 4 ≠ Hd.magic) : Calls Tryz.prog 129 #[.slice (some ⟨g, 0, none⟩) n c] w fun e w' => e = .returned (.tuple #[hdV (Hd.openH bs), .int .u32 ((Hd.openS bs : Nat) : Int), .int .i64 (Hd.openE bs)]) ∧ Below w.heap.size w w' := by
  have hl : bs.length = n := by have := hx.1; simpa using this
  rw [open_no (open_mag (bs := bs) (by omega) hM)]
  obtain ⟨x0, x1, x2, x3, t, rfl⟩ : ∃ x0 x1 x2 x3 t, bs = x0 :: x1 :: x2 :: x3 :: t := by
    match bs, hl with
    | [], h | [_], h | [_, _], h | [_, _, _], h => simp at h; omega
    | x0 :: x1 :: x2 :: x3 :: t, _ => exact ⟨x0, x1, x2, x3, t, rfl⟩
  have hne : (!([x0, x1, x2, x3] == Hd.magic)) = true := by
    have : ([x0, x1, x2, x3] == Hd.magic) = false := by
      rw [beq_eq_false_iff_ne]; exact hM
    rw [this]; rfl
  have HQ := Lib.hid (magic_neq x0 x1 x2 x3)
  rw [hne] at HQ
  have hgB := (reads_cells hx (j := 0) rfl).2
  have hgl : g < w.heap.size := by omega
  have HCE : Hid (∀ V : World, V.heap[g]? = w.heap[g]? → V.cell? ⟨g, 0, none⟩ = some (.int .u8 (x0.toNat : Int)) ∧ V.cell? ⟨g, 1, none⟩ = some (.int .u8 (x1.toNat : Int)) ∧ V.cell? ⟨g, 2, none⟩ = some (.int .u8 (x2.toNat : Int)) ∧ V.cell? ⟨g, 3, none⟩ = some (.int .u8 (x3.toNat : Int))) := Lib.hid fun V hV => ⟨(World.cell?_of_block hV).trans (reads_cells hx (j := 0) rfl).1, (World.cell?_of_block hV).trans (reads_cells hx (j := 1) rfl).1, (World.cell?_of_block hV).trans (reads_cells hx (j := 2) rfl).1, (World.cell?_of_block hV).trans (reads_cells hx (j := 3) rfl).1⟩
  have hq := HQ.out
  have hgd : Tryz.prog.eqGuardType Tryz.prog.depth 253 = false := by kernel_rfl
  have hn36 : ¬ (n : Int) < 36 := by omega
  have ha4 := array_n4 ⟨g, 0, none⟩ n c (by omega)
  clear hM hx hl hgB hn hc
  go_enter Tryz.func129, Tryz.ntmps129
  go_wp2_with fail
  have e0 : (w.alloc (.cells #[.int .u8 0, .int .u8 0, .int .u8 0, .int .u8 0, .int .u8 0, .int .u8 0, .int .u8 0, .int .u8 0, .int .i64 0, .int .i64 0, .int .i64 0, .string { data := #[] }, .int .i64 0, .int .i64 0, .int .i64 0, .int .i64 0] 28)).heap[g]? = w.heap[g]? := Below.heap_alloc w _ g hgl
  go_region_held3 (fun w' => w'.cell? ⟨g, 0, none⟩ = some (.int .u8 (x0.toNat : Int)) ∧ w'.cell? ⟨g, 1, none⟩ = some (.int .u8 (x1.toNat : Int)) ∧ w'.cell? ⟨g, 2, none⟩ = some (.int .u8 (x2.toNat : Int)) ∧ w'.cell? ⟨g, 3, none⟩ = some (.int .u8 (x3.toNat : Int))) (first | exact HCE.out _ (by first | with_reducible assumption | exact e0) | go_keep)
    (first
      | (go_at_call 166; refine (fmark_any _).mono ?_; rintro e w1 ⟨rfl, hb1⟩; have e1 : w1.heap[g]? = w.heap[g]? := (hb1.block g (by show g < (World.alloc w _).heap.size; rw [alloc_size]; omega)).trans e0; have HB1 : Hid (Below w.heap.size w w1) := Lib.hid (Below.trans (below_drew1 ((Below.refl _ w).alloc (Nat.le_refl _) _)) (hb1.mono (by show w.heap.size ≤ (World.alloc w _).heap.size; rw [alloc_size]; omega))); have K1 : Hid (Blk w1 w.heap.size 28 zeroHd) := Lib.hid (((Blk.new w 28 zeroHd).drew).below hb1 (by show w.heap.size < (World.alloc w _).heap.size; rw [alloc_size]; omega)); clear hb1))
  all_goals
    obtain ⟨W3, hrun, hk3, ht3, _⟩ := store_zero K1.out rfl
    go_wp2_with (refine wpList_store_at rfl 28 _ _ rfl ⟨w.heap.size, 0, none⟩ rfl (.agg zeroHd) rfl W3 hrun ?_)
    refine bodyPost_ret (v := .tuple #[.agg zeroHd, .int .u32 0, .int .i64 80]) (results_cell3 Tryz.results129 _ ⟨w.heap.size, 0, none⟩ rfl (.agg zeroHd) _ _ (load_head hk3 rfl)) rfl ⟨rfl, ?_⟩
    exact HB1.out.trans (ht3.below HB1.out.size (fun k hk => Nat.le_of_eq hk.symm))
end Go.Proofs.YtcbebefdbdppdaaGreat
namespace Go.Proofs.YtcbebefdbdppdaaGreat
open Go.RowKit Go.Maps
theorem calls_world {P : Program} {f : FuncId} {args : Array Value} {R : Ending → World → Prop} {W : World} (h : ∀ X, X = W → Calls P f args X R) : Calls P f args W R := h W rfl
theorem w64kn {k : Nat} (h : k ≤ 255) : wrap64 ((k : Int) + 4) = (k : Int) + 4 := w64 (by omega) (by omega)
theorem bneI {a b : Nat} (h : ¬ a = b) : ((a : Int) != (b : Int)) = true := by simp; omega
theorem beqI {a b : Nat} (h : a = b) : ((a : Int) != (b : Int)) = false := by simp; omega
theorem RdAt.far {w : World} {r g n d p : Nat} {bs : List UInt8} (h : RdAt w r g n d p bs) {L : Nat} (hr : r ≠ L) (hg : g ≠ L) (i : Nat) (v : Value) : RdAt (w.setCell ⟨L, i, none⟩ v) r g n d p bs := h.keep (Below.heap_setCell w ⟨L, i, none⟩ v r hr) (Below.heap_setCell w ⟨L, i, none⟩ v g hg)
theorem chain8 (v0 v1 v2 v3 v4 v5 v6 v7 : Value) : ((((((((#[.int .u8 0, .int .u8 0, .int .u8 0, .int .u8 0, .int .u8 0, .int .u8 0, .int .u8 0, .int .u8 0, .int .i64 0, .int .i64 0, .int .i64 0, .string { data := #[] }, .int .i64 0, .int .i64 0, .int .i64 0, .int .i64 0] : Array Value).setIfInBounds 0 v0).setIfInBounds 1 v1).setIfInBounds 2 v2).setIfInBounds 3 v3).setIfInBounds 4 v4).setIfInBounds 5 v5).setIfInBounds 6 v6).setIfInBounds 7 v7 = #[v0, v1, v2, v3, v4, v5, v6, v7, .int .i64 0, .int .i64 0, .int .i64 0, .string { data := #[] }, .int .i64 0, .int .i64 0, .int .i64 0, .int .i64 0] := by simp
set_option maxRecDepth 100000 in
set_option maxHeartbeats 40000000 in
theorem open_right (g m d2 : Nat) (bs : List UInt8) (w : World) (B : Nat) (hx : Reads w B 1 (some ⟨g, 0, none⟩) (m + 36) (bs.map B8)) (hB : B ≤ w.heap.size) (hc : m ≤ d2) (hbig : m + 36 ≤ 1099511627776) (hM : bs.take 4 = Hd.magic) : Calls Tryz.prog 129 #[.slice (some ⟨g, 0, none⟩) (m + 36) (d2 + 36)] w fun e w' => e = .returned (.tuple #[hdV (Hd.openH bs), .int .u32 ((Hd.openS bs : Nat) : Int), .int .i64 (Hd.openE bs)]) ∧ Below w.heap.size w w' := by
  have hl : bs.length = m + 36 := by have := hx.1; simpa using this
  have HX := Lib.hid hx
  have HL := Lib.hid hl
  have HMG := Lib.hid hM
  have HNC : Hid (m ≤ d2 ∧ m + 36 ≤ 1099511627776) := Lib.hid ⟨hc, hbig⟩
  have HQ := Lib.hid (magic_neq 67 82 78 2)
  rw [show (!([67, 82, 78, 2] == Hd.magic)) = false from rfl] at HQ
  have hgl : g < w.heap.size := by
    have := (reads_cells hx (j := 0) (u := B8 (bs[0]'(by omega))) (by rw [List.getElem?_map, List.getElem?_eq_getElem (by omega)]; rfl)).2
    omega
  have hmag : ∀ (j : Nat) (x : UInt8), Hd.magic[j]? = some x → w.cell? ⟨g, j, none⟩ = some (B8 x) := fun j x hj => (reads_cells hx (j := j) (by
    rw [← hM, List.getElem?_take] at hj
    split at hj
    · rw [List.getElem?_map, hj]; rfl
    · cases hj)).1
  have HCE : Hid (∀ V : World, V.heap[g]? = w.heap[g]? → V.cell? ⟨g, 0, none⟩ = some (.int .u8 67) ∧ V.cell? ⟨g, 1, none⟩ = some (.int .u8 82) ∧ V.cell? ⟨g, 2, none⟩ = some (.int .u8 78) ∧ V.cell? ⟨g, 3, none⟩ = some (.int .u8 2)) := Lib.hid fun V hV => ⟨(World.cell?_of_block hV).trans (hmag 0 67 rfl), (World.cell?_of_block hV).trans (hmag 1 82 rfl), (World.cell?_of_block hV).trans (hmag 2 78 rfl), (World.cell?_of_block hV).trans (hmag 3 2 rfl)⟩
  have hq : ∀ W : World, (binOp .neq 253 (.agg #[.int .u8 67, .int .u8 82, .int .u8 78, .int .u8 2]) (.agg #[.int .u8 67, .int .u8 82, .int .u8 78, .int .u8 2])).run Tryz.prog W = .ok (.bool false) W := HQ.out
  have hgd : Tryz.prog.eqGuardType Tryz.prog.depth 253 = false := by kernel_rfl
  have hm0 : (0 : Int) ≤ (m : Int) := Int.natCast_nonneg _
  have hn36 : ¬ (m : Int) + 36 < 36 := by omega
  have hc36 : (36 : Int) ≤ (d2 : Int) + 36 := by omega
  have hc32 : (32 : Int) ≤ (d2 : Int) + 36 := by omega
  have ha4 := array_n4 ⟨g, 0, none⟩ (m + 36) (d2 + 36) (by omega)
  have HPT := Lib.hid (hd_of_parts (bs := bs) (by omega))
  have HB0 := Lib.hid hB
  have hc4 : ¬ d2 + 36 = 4 := by omega
  clear hM hx hl hmag hB hc hbig
  go_enter Tryz.func129, Tryz.ntmps129
  go_upto_region 3 with fail
  go_cut [19] (fun s19 wx => s19 = .bool false ∧ Blk wx w.heap.size 28 zeroHd ∧ Below w.heap.size w wx)
  case first =>
    have e0 : (w.alloc (.cells #[.int .u8 0, .int .u8 0, .int .u8 0, .int .u8 0, .int .u8 0, .int .u8 0, .int .u8 0, .int .u8 0, .int .i64 0, .int .i64 0, .int .i64 0, .string { data := #[] }, .int .i64 0, .int .i64 0, .int .i64 0, .int .i64 0] 28)).heap[g]? = w.heap[g]? := Below.heap_alloc w _ g hgl
    go_region_held3 (fun w' => w'.cell? ⟨g, 0, none⟩ = some (.int .u8 67) ∧ w'.cell? ⟨g, 1, none⟩ = some (.int .u8 82) ∧ w'.cell? ⟨g, 2, none⟩ = some (.int .u8 78) ∧ w'.cell? ⟨g, 3, none⟩ = some (.int .u8 2)) (first | exact HCE.out _ (by first | with_reducible assumption | exact e0) | go_keep)
      (first
        | (go_at_call 166; refine (fmark_any _).mono ?_; rintro e w1 ⟨rfl, hb1⟩; have e1 : w1.heap[g]? = w.heap[g]? := (hb1.block g (by show g < (World.alloc w _).heap.size; rw [alloc_size]; omega)).trans e0; have HB1 : Hid (Below w.heap.size w w1) := Lib.hid (Below.trans (below_drew1 ((Below.refl _ w).alloc (Nat.le_refl _) _)) (hb1.mono (by show w.heap.size ≤ (World.alloc w _).heap.size; rw [alloc_size]; omega))); have K1 : Hid (Blk w1 w.heap.size 28 zeroHd) := Lib.hid (((Blk.new w 28 zeroHd).drew).below hb1 (by show w.heap.size < (World.alloc w _).heap.size; rw [alloc_size]; omega)); clear hb1))
    all_goals
      go_wp2_with fail
      go_meet
      exact ⟨rfl, K1.out, HB1.out⟩
  case rest =>
    obtain ⟨rfl, hkc, hbc⟩ := hcut
    have HKC := Lib.hid hkc
    have HBC := Lib.hid hbc
    have hsc := hbc.size
    have hlz := hkc.lt
    have HXC : Hid (∀ W, Below w.heap.size w W → Reads W w.heap.size 1 (some ⟨g, 0, none⟩) (m + 36) (bs.map B8)) := Lib.hid fun W hW => (HX.out.below (hW.mono HB0.out)).more HB0.out
    have HX4 : Hid (Reads wc w.heap.size 1 (some ⟨g, 4, none⟩) 32 (((bs.drop 4).take 32).map B8)) := Lib.hid (by
      have := reads_take (reads_drop (HXC.out wc hbc) (j := 4) (by omega)) (j := 32) (by omega)
      rw [← List.map_drop, ← List.map_take] at this
      exact this)
    obtain ⟨BS, hBS⟩ : ∃ BS, BS = (bs.drop 4).take 32 := ⟨_, rfl⟩
    have HBSL : Hid (BS.length = 32) := Lib.hid (by rw [hBS, List.length_take, List.length_drop, HL.out]; omega)
    rw [← hBS] at HX4 HPT
    clear hkc hbc hq hgd ha4 hBS
    go_wp2_with fail
    refine (open_any (some ⟨g, 4, none⟩) 32 _ BS wc _ HX4.out (by decide) (by decide)).mono ?_
    rintro e w2 ⟨r, g2, d, rfl, hrd, hr2, hg2, hb2⟩
    have HRD2 := Lib.hid hrd
    have HB2 : Hid (Below w.heap.size w w2) := Lib.hid (HBC.out.trans (hb2.mono hsc))
    have HK2 := Lib.hid (HKC.out.below hb2 hlz)
    have hs2 := hb2.size
    have hrl2 := hrd.head.lt
    have hgl2 := hrd.glt
    clear hrd hb2 hc4 hc36
    go_wp2_with fail
    obtain ⟨L, hL⟩ : ∃ L, L = w2.heap.size := ⟨_, rfl⟩
    obtain ⟨X2, hX2⟩ : ∃ X, X = w2.alloc (.cells #[.int .u8 0, .int .u8 0, .int .u8 0, .int .u8 0, .int .u8 0, .int .u8 0, .int .u8 0, .int .u8 0, .int .i64 0, .int .i64 0, .int .i64 0, .string { data := #[] }, .int .i64 0, .int .i64 0, .int .i64 0, .int .i64 0] 28) := ⟨_, rfl⟩
    rw [← hX2, ← hL]
    have hLr : ¬ L = r := by omega
    have hLg : ¬ L = g2 := by omega
    have hgL : g2 ≠ L := by omega
    have hrL : r ≠ L := by omega
    have hLw : ¬ w.heap.size = L := by omega
    have hLwl : w.heap.size ≤ L := by omega
    have hwr : ¬ w.heap.size = r := by omega
    have hwrl : w.heap.size ≤ r := by omega
    have hb22 : Below w2.heap.size w2 X2 := by rw [hX2]; exact (Below.refl _ _).alloc (Nat.le_refl _) _
    have HR2 := Lib.hid (HRD2.out.below hb22)
    have HL2 : Hid (Blk X2 L 28 #[.int .u8 0, .int .u8 0, .int .u8 0, .int .u8 0, .int .u8 0, .int .u8 0, .int .u8 0, .int .u8 0, .int .i64 0, .int .i64 0, .int .i64 0, .string { data := #[] }, .int .i64 0, .int .i64 0, .int .i64 0, .int .i64 0]) := Lib.hid (by rw [hX2, hL]; exact Blk.new _ _ _)
    have HBX2 : Hid (Below w.heap.size w X2) := Lib.hid (HB2.out.trans (hb22.mono (by omega)))
    have HKX2 : Hid (Blk X2 w.heap.size 28 zeroHd) := Lib.hid (HK2.out.below hb22 HK2.out.lt)
    clear hX2 hb22 hL
    refine (bytes_any r g2 32 d 0 8 BS X2 HR2.out (by decide) (by decide)).mono ?_
    rintro e w3 ⟨v3, rfl, hrd3, ho3, ht3⟩
    obtain ⟨a0, a1, a2, a3, a4, a5, a6, a7, hst⟩ := lab_eight (s := (BS.drop 0).take 8) (by rw [List.length_take, List.length_drop, HBSL.out]; rfl)
    rw [hst] at ho3
    obtain ⟨g3, c3, rfl⟩ : ∃ g3 c3, v3 = .slice (some ⟨g3, 0, none⟩) 8 c3 := by
      rcases ho3.2 with ⟨_, h0⟩ | ⟨g', cap, cur, hv, _⟩
      · omega
      · exact ⟨g', cap, hv⟩
    have hr3 := Reads.of_own ho3
    have s0 : w3.cell? ⟨g3, 0, none⟩ = some (.int .u8 (a0.toNat : Int)) := (reads_cells hr3 (j := 0) rfl).1
    have s1 : w3.cell? ⟨g3, 1, none⟩ = some (.int .u8 (a1.toNat : Int)) := (reads_cells hr3 (j := 1) rfl).1
    have s2 : w3.cell? ⟨g3, 2, none⟩ = some (.int .u8 (a2.toNat : Int)) := (reads_cells hr3 (j := 2) rfl).1
    have s3 : w3.cell? ⟨g3, 3, none⟩ = some (.int .u8 (a3.toNat : Int)) := (reads_cells hr3 (j := 3) rfl).1
    have s4 : w3.cell? ⟨g3, 4, none⟩ = some (.int .u8 (a4.toNat : Int)) := (reads_cells hr3 (j := 4) rfl).1
    have s5 : w3.cell? ⟨g3, 5, none⟩ = some (.int .u8 (a5.toNat : Int)) := (reads_cells hr3 (j := 5) rfl).1
    have s6 : w3.cell? ⟨g3, 6, none⟩ = some (.int .u8 (a6.toNat : Int)) := (reads_cells hr3 (j := 6) rfl).1
    have s7 : w3.cell? ⟨g3, 7, none⟩ = some (.int .u8 (a7.toNat : Int)) := (reads_cells hr3 (j := 7) rfl).1
    have ha8 := array8 ⟨g3, 0, none⟩ c3
    have HST := Lib.hid hst
    have k3 : Blk w3 L 28 #[.int .u8 0, .int .u8 0, .int .u8 0, .int .u8 0, .int .u8 0, .int .u8 0, .int .u8 0, .int .u8 0, .int .i64 0, .int .i64 0, .int .i64 0, .string { data := #[] }, .int .i64 0, .int .i64 0, .int .i64 0, .int .i64 0] := HL2.out.touch ht3 hLr
    have y0 : w3.cell? ⟨L, 0, none⟩ = some (.int .u8 0) := k3.cell 0
    have y1 : w3.cell? ⟨L, 1, none⟩ = some (.int .u8 0) := k3.cell 1
    have y2 : w3.cell? ⟨L, 2, none⟩ = some (.int .u8 0) := k3.cell 2
    have y3 : w3.cell? ⟨L, 3, none⟩ = some (.int .u8 0) := k3.cell 3
    have y4 : w3.cell? ⟨L, 4, none⟩ = some (.int .u8 0) := k3.cell 4
    have y5 : w3.cell? ⟨L, 5, none⟩ = some (.int .u8 0) := k3.cell 5
    have y6 : w3.cell? ⟨L, 6, none⟩ = some (.int .u8 0) := k3.cell 6
    have y7 : w3.cell? ⟨L, 7, none⟩ = some (.int .u8 0) := k3.cell 7
    have yf3 : ∀ i, w3.frozen? ⟨L, i, none⟩ = false := k3.frozen
    have HRD3 := Lib.hid hrd3
    have HK3 := Lib.hid k3
    have HB3 : Hid (Below w.heap.size w w3) := Lib.hid (HBX2.out.trans (ht3.below HBX2.out.size fun i (hi : i = r) => by rw [hi]; exact hwrl))
    have HZ3 : Hid (Blk w3 w.heap.size 28 zeroHd) := Lib.hid (HKX2.out.touch ht3 hwr)
    clear hst hrd3 ho3 ht3 hr3 k3
    go_wp2_with fail
    refine calls_world fun X3 hX3 => ?_
    have HR3 : Hid (RdAt X3 r g2 32 d 8 BS) := Lib.hid (by rw [hX3]; exact ((((((((HRD3.out).far hrL hgL 0 (.int .u8 (a0.toNat : Int))).far hrL hgL 1 (.int .u8 (a1.toNat : Int))).far hrL hgL 2 (.int .u8 (a2.toNat : Int))).far hrL hgL 3 (.int .u8 (a3.toNat : Int))).far hrL hgL 4 (.int .u8 (a4.toNat : Int))).far hrL hgL 5 (.int .u8 (a5.toNat : Int))).far hrL hgL 6 (.int .u8 (a6.toNat : Int))).far hrL hgL 7 (.int .u8 (a7.toNat : Int)))
    have HL3 : Hid (Blk X3 L 28 #[.int .u8 (a0.toNat : Int), .int .u8 (a1.toNat : Int), .int .u8 (a2.toNat : Int), .int .u8 (a3.toNat : Int), .int .u8 (a4.toNat : Int), .int .u8 (a5.toNat : Int), .int .u8 (a6.toNat : Int), .int .u8 (a7.toNat : Int), .int .i64 0, .int .i64 0, .int .i64 0, .string { data := #[] }, .int .i64 0, .int .i64 0, .int .i64 0, .int .i64 0]) := Lib.hid (by
      have h := ((((((((HK3.out).set_ 0 (.int .u8 (a0.toNat : Int))).set_ 1 (.int .u8 (a1.toNat : Int))).set_ 2 (.int .u8 (a2.toNat : Int))).set_ 3 (.int .u8 (a3.toNat : Int))).set_ 4 (.int .u8 (a4.toNat : Int))).set_ 5 (.int .u8 (a5.toNat : Int))).set_ 6 (.int .u8 (a6.toNat : Int))).set_ 7 (.int .u8 (a7.toNat : Int))
      rw [chain8] at h
      rw [hX3]; exact h)
    have HBX3 : Hid (Below w.heap.size w X3) := Lib.hid (by rw [hX3]; exact ((((((((HB3.out).setCell (p := ⟨L, 0, none⟩) hLwl (.int .u8 (a0.toNat : Int))).setCell (p := ⟨L, 1, none⟩) hLwl (.int .u8 (a1.toNat : Int))).setCell (p := ⟨L, 2, none⟩) hLwl (.int .u8 (a2.toNat : Int))).setCell (p := ⟨L, 3, none⟩) hLwl (.int .u8 (a3.toNat : Int))).setCell (p := ⟨L, 4, none⟩) hLwl (.int .u8 (a4.toNat : Int))).setCell (p := ⟨L, 5, none⟩) hLwl (.int .u8 (a5.toNat : Int))).setCell (p := ⟨L, 6, none⟩) hLwl (.int .u8 (a6.toNat : Int))).setCell (p := ⟨L, 7, none⟩) hLwl (.int .u8 (a7.toNat : Int)))
    have HKX3 : Hid (Blk X3 w.heap.size 28 zeroHd) := Lib.hid (by rw [hX3]; exact ((((((((HZ3.out).far (p := ⟨L, 0, none⟩) hLw (.int .u8 (a0.toNat : Int))).far (p := ⟨L, 1, none⟩) hLw (.int .u8 (a1.toNat : Int))).far (p := ⟨L, 2, none⟩) hLw (.int .u8 (a2.toNat : Int))).far (p := ⟨L, 3, none⟩) hLw (.int .u8 (a3.toNat : Int))).far (p := ⟨L, 4, none⟩) hLw (.int .u8 (a4.toNat : Int))).far (p := ⟨L, 5, none⟩) hLw (.int .u8 (a5.toNat : Int))).far (p := ⟨L, 6, none⟩) hLw (.int .u8 (a6.toNat : Int))).far (p := ⟨L, 7, none⟩) hLw (.int .u8 (a7.toNat : Int)))
    clear hX3 s0 s1 s2 s3 s4 s5 s6 s7 y0 y1 y2 y3 y4 y5 y6 y7 yf3
    obtain ⟨qK, hqK⟩ : ∃ q, q = unle ((BS.drop 8).take 1) := ⟨_, rfl⟩
    have HqK := Lib.hid hqK
    have bqK : Hid (qK < 256) := Lib.hid (by rw [hqK]; exact unle_bd _ 8 1)
    refine (take8_any r g2 32 d 8 BS X3 HR3.out (by decide)).mono ?_
    rw [← hqK]
    rintro e w4 ⟨rfl, hrd, ht⟩
    have wqK : wrap64 (qK : Int) = (qK : Int) := wrap_u32 qK (Nat.lt_of_lt_of_le bqK.out (by decide))
    have k4 : Blk w4 L 28 #[.int .u8 (a0.toNat : Int), .int .u8 (a1.toNat : Int), .int .u8 (a2.toNat : Int), .int .u8 (a3.toNat : Int), .int .u8 (a4.toNat : Int), .int .u8 (a5.toNat : Int), .int .u8 (a6.toNat : Int), .int .u8 (a7.toNat : Int), .int .i64 0, .int .i64 0, .int .i64 0, .string { data := #[] }, .int .i64 0, .int .i64 0, .int .i64 0, .int .i64 0] := HL3.out.touch ht hLr
    have y4 : w4.cell? ⟨L, 8, none⟩ = some (.int .i64 0) := k4.cell 8
    have yf4 : ∀ i, w4.frozen? ⟨L, i, none⟩ = false := k4.frozen
    have HR4 : Hid (RdAt (w4.setCell ⟨L, 8, none⟩ (.int .i64 (qK : Int))) r g2 32 d 9 BS) := Lib.hid (hrd.far hrL hgL 8 _)
    have HL4 : Hid (Blk (w4.setCell ⟨L, 8, none⟩ (.int .i64 (qK : Int))) L 28 #[.int .u8 (a0.toNat : Int), .int .u8 (a1.toNat : Int), .int .u8 (a2.toNat : Int), .int .u8 (a3.toNat : Int), .int .u8 (a4.toNat : Int), .int .u8 (a5.toNat : Int), .int .u8 (a6.toNat : Int), .int .u8 (a7.toNat : Int), .int .i64 (qK : Int), .int .i64 0, .int .i64 0, .string { data := #[] }, .int .i64 0, .int .i64 0, .int .i64 0, .int .i64 0]) := Lib.hid (k4.set_ 8 (.int .i64 (qK : Int)))
    have HBX4 : Hid (Below w.heap.size w (w4.setCell ⟨L, 8, none⟩ (.int .i64 (qK : Int)))) := Lib.hid ((HBX3.out.trans (ht.below HBX3.out.size fun i (hi : i = r) => by rw [hi]; exact hwrl)).setCell hLwl _)
    have HKX4 : Hid (Blk (w4.setCell ⟨L, 8, none⟩ (.int .i64 (qK : Int))) w.heap.size 28 zeroHd) := Lib.hid ((HKX3.out.touch ht hwr).far hLw _)
    clear hqK hrd ht k4
    go_wp2_with fail
    clear y4 yf4 wqK
    obtain ⟨qM, hqM⟩ : ∃ q, q = unle ((BS.drop 9).take 1) := ⟨_, rfl⟩
    have HqM := Lib.hid hqM
    have bqM : Hid (qM < 256) := Lib.hid (by rw [hqM]; exact unle_bd _ 9 1)
    refine (take8_any r g2 32 d 9 BS (w4.setCell ⟨L, 8, none⟩ (.int .i64 (qK : Int))) HR4.out (by decide)).mono ?_
    rw [← hqM]
    rintro e w5 ⟨rfl, hrd, ht⟩
    have wqM : wrap64 (qM : Int) = (qM : Int) := wrap_u32 qM (Nat.lt_of_lt_of_le bqM.out (by decide))
    have k5 : Blk w5 L 28 #[.int .u8 (a0.toNat : Int), .int .u8 (a1.toNat : Int), .int .u8 (a2.toNat : Int), .int .u8 (a3.toNat : Int), .int .u8 (a4.toNat : Int), .int .u8 (a5.toNat : Int), .int .u8 (a6.toNat : Int), .int .u8 (a7.toNat : Int), .int .i64 (qK : Int), .int .i64 0, .int .i64 0, .string { data := #[] }, .int .i64 0, .int .i64 0, .int .i64 0, .int .i64 0] := HL4.out.touch ht hLr
    have y5 : w5.cell? ⟨L, 9, none⟩ = some (.int .i64 0) := k5.cell 9
    have yf5 : ∀ i, w5.frozen? ⟨L, i, none⟩ = false := k5.frozen
    have HR5 : Hid (RdAt (w5.setCell ⟨L, 9, none⟩ (.int .i64 (qM : Int))) r g2 32 d 10 BS) := Lib.hid (hrd.far hrL hgL 9 _)
    have HL5 : Hid (Blk (w5.setCell ⟨L, 9, none⟩ (.int .i64 (qM : Int))) L 28 #[.int .u8 (a0.toNat : Int), .int .u8 (a1.toNat : Int), .int .u8 (a2.toNat : Int), .int .u8 (a3.toNat : Int), .int .u8 (a4.toNat : Int), .int .u8 (a5.toNat : Int), .int .u8 (a6.toNat : Int), .int .u8 (a7.toNat : Int), .int .i64 (qK : Int), .int .i64 (qM : Int), .int .i64 0, .string { data := #[] }, .int .i64 0, .int .i64 0, .int .i64 0, .int .i64 0]) := Lib.hid (k5.set_ 9 (.int .i64 (qM : Int)))
    have HBX5 : Hid (Below w.heap.size w (w5.setCell ⟨L, 9, none⟩ (.int .i64 (qM : Int)))) := Lib.hid ((HBX4.out.trans (ht.below HBX4.out.size fun i (hi : i = r) => by rw [hi]; exact hwrl)).setCell hLwl _)
    have HKX5 : Hid (Blk (w5.setCell ⟨L, 9, none⟩ (.int .i64 (qM : Int))) w.heap.size 28 zeroHd) := Lib.hid ((HKX4.out.touch ht hwr).far hLw _)
    clear hqM hrd ht k5
    go_wp2_with fail
    clear y5 yf5 wqM
    obtain ⟨qB, hqB⟩ : ∃ q, q = unle ((BS.drop 10).take 4) := ⟨_, rfl⟩
    have HqB := Lib.hid hqB
    have bqB : Hid (qB < 4294967296) := Lib.hid (by rw [hqB]; exact unle_bd _ 10 4)
    refine (take32_any r g2 32 d 10 BS (w5.setCell ⟨L, 9, none⟩ (.int .i64 (qM : Int))) HR5.out (by decide)).mono ?_
    rw [← hqB]
    rintro e w6 ⟨rfl, hrd, ht⟩
    have wqB : wrap64 (qB : Int) = (qB : Int) := wrap_u32 qB (Nat.lt_of_lt_of_le bqB.out (by decide))
    have k6 : Blk w6 L 28 #[.int .u8 (a0.toNat : Int), .int .u8 (a1.toNat : Int), .int .u8 (a2.toNat : Int), .int .u8 (a3.toNat : Int), .int .u8 (a4.toNat : Int), .int .u8 (a5.toNat : Int), .int .u8 (a6.toNat : Int), .int .u8 (a7.toNat : Int), .int .i64 (qK : Int), .int .i64 (qM : Int), .int .i64 0, .string { data := #[] }, .int .i64 0, .int .i64 0, .int .i64 0, .int .i64 0] := HL5.out.touch ht hLr
    have y6 : w6.cell? ⟨L, 10, none⟩ = some (.int .i64 0) := k6.cell 10
    have yf6 : ∀ i, w6.frozen? ⟨L, i, none⟩ = false := k6.frozen
    have HR6 : Hid (RdAt (w6.setCell ⟨L, 10, none⟩ (.int .i64 (qB : Int))) r g2 32 d 14 BS) := Lib.hid (hrd.far hrL hgL 10 _)
    have HL6 : Hid (Blk (w6.setCell ⟨L, 10, none⟩ (.int .i64 (qB : Int))) L 28 #[.int .u8 (a0.toNat : Int), .int .u8 (a1.toNat : Int), .int .u8 (a2.toNat : Int), .int .u8 (a3.toNat : Int), .int .u8 (a4.toNat : Int), .int .u8 (a5.toNat : Int), .int .u8 (a6.toNat : Int), .int .u8 (a7.toNat : Int), .int .i64 (qK : Int), .int .i64 (qM : Int), .int .i64 (qB : Int), .string { data := #[] }, .int .i64 0, .int .i64 0, .int .i64 0, .int .i64 0]) := Lib.hid (k6.set_ 10 (.int .i64 (qB : Int)))
    have HBX6 : Hid (Below w.heap.size w (w6.setCell ⟨L, 10, none⟩ (.int .i64 (qB : Int)))) := Lib.hid ((HBX5.out.trans (ht.below HBX5.out.size fun i (hi : i = r) => by rw [hi]; exact hwrl)).setCell hLwl _)
    have HKX6 : Hid (Blk (w6.setCell ⟨L, 10, none⟩ (.int .i64 (qB : Int))) w.heap.size 28 zeroHd) := Lib.hid ((HKX5.out.touch ht hwr).far hLw _)
    clear hqB hrd ht k6
    go_wp2_with fail
    clear y6 yf6 wqB
    obtain ⟨qS, hqS⟩ : ∃ q, q = unle ((BS.drop 14).take 4) := ⟨_, rfl⟩
    have HqS := Lib.hid hqS
    have bqS : Hid (qS < 4294967296) := Lib.hid (by rw [hqS]; exact unle_bd _ 14 4)
    refine (take32_any r g2 32 d 14 BS (w6.setCell ⟨L, 10, none⟩ (.int .i64 (qB : Int))) HR6.out (by decide)).mono ?_
    rw [← hqS]
    rintro e w7 ⟨rfl, hrd, ht⟩
    have wqS : wrap64 (qS : Int) = (qS : Int) := wrap_u32 qS (Nat.lt_of_lt_of_le bqS.out (by decide))
    have k7 : Blk w7 L 28 #[.int .u8 (a0.toNat : Int), .int .u8 (a1.toNat : Int), .int .u8 (a2.toNat : Int), .int .u8 (a3.toNat : Int), .int .u8 (a4.toNat : Int), .int .u8 (a5.toNat : Int), .int .u8 (a6.toNat : Int), .int .u8 (a7.toNat : Int), .int .i64 (qK : Int), .int .i64 (qM : Int), .int .i64 (qB : Int), .string { data := #[] }, .int .i64 0, .int .i64 0, .int .i64 0, .int .i64 0] := HL6.out.touch ht hLr
    have y7 : w7.cell? ⟨L, 12, none⟩ = some (.int .i64 0) := k7.cell 12
    have yf7 : ∀ i, w7.frozen? ⟨L, i, none⟩ = false := k7.frozen
    have HR7 : Hid (RdAt (w7.setCell ⟨L, 12, none⟩ (.int .i64 (qS : Int))) r g2 32 d 18 BS) := Lib.hid (hrd.far hrL hgL 12 _)
    have HL7 : Hid (Blk (w7.setCell ⟨L, 12, none⟩ (.int .i64 (qS : Int))) L 28 #[.int .u8 (a0.toNat : Int), .int .u8 (a1.toNat : Int), .int .u8 (a2.toNat : Int), .int .u8 (a3.toNat : Int), .int .u8 (a4.toNat : Int), .int .u8 (a5.toNat : Int), .int .u8 (a6.toNat : Int), .int .u8 (a7.toNat : Int), .int .i64 (qK : Int), .int .i64 (qM : Int), .int .i64 (qB : Int), .string { data := #[] }, .int .i64 (qS : Int), .int .i64 0, .int .i64 0, .int .i64 0]) := Lib.hid (k7.set_ 12 (.int .i64 (qS : Int)))
    have HBX7 : Hid (Below w.heap.size w (w7.setCell ⟨L, 12, none⟩ (.int .i64 (qS : Int)))) := Lib.hid ((HBX6.out.trans (ht.below HBX6.out.size fun i (hi : i = r) => by rw [hi]; exact hwrl)).setCell hLwl _)
    have HKX7 : Hid (Blk (w7.setCell ⟨L, 12, none⟩ (.int .i64 (qS : Int))) w.heap.size 28 zeroHd) := Lib.hid ((HKX6.out.touch ht hwr).far hLw _)
    clear hqS hrd ht k7
    go_wp2_with fail
    clear y7 yf7 wqS
    obtain ⟨qI, hqI⟩ : ∃ q, q = unle ((BS.drop 18).take 1) := ⟨_, rfl⟩
    have HqI := Lib.hid hqI
    have bqI : Hid (qI < 256) := Lib.hid (by rw [hqI]; exact unle_bd _ 18 1)
    refine (take8_any r g2 32 d 18 BS (w7.setCell ⟨L, 12, none⟩ (.int .i64 (qS : Int))) HR7.out (by decide)).mono ?_
    rw [← hqI]
    rintro e w8 ⟨rfl, hrd, ht⟩
    have wqI : wrap64 (qI : Int) = (qI : Int) := wrap_u32 qI (Nat.lt_of_lt_of_le bqI.out (by decide))
    have k8 : Blk w8 L 28 #[.int .u8 (a0.toNat : Int), .int .u8 (a1.toNat : Int), .int .u8 (a2.toNat : Int), .int .u8 (a3.toNat : Int), .int .u8 (a4.toNat : Int), .int .u8 (a5.toNat : Int), .int .u8 (a6.toNat : Int), .int .u8 (a7.toNat : Int), .int .i64 (qK : Int), .int .i64 (qM : Int), .int .i64 (qB : Int), .string { data := #[] }, .int .i64 (qS : Int), .int .i64 0, .int .i64 0, .int .i64 0] := HL7.out.touch ht hLr
    have y8 : w8.cell? ⟨L, 13, none⟩ = some (.int .i64 0) := k8.cell 13
    have yf8 : ∀ i, w8.frozen? ⟨L, i, none⟩ = false := k8.frozen
    have HR8 : Hid (RdAt (w8.setCell ⟨L, 13, none⟩ (.int .i64 (qI : Int))) r g2 32 d 19 BS) := Lib.hid (hrd.far hrL hgL 13 _)
    have HL8 : Hid (Blk (w8.setCell ⟨L, 13, none⟩ (.int .i64 (qI : Int))) L 28 #[.int .u8 (a0.toNat : Int), .int .u8 (a1.toNat : Int), .int .u8 (a2.toNat : Int), .int .u8 (a3.toNat : Int), .int .u8 (a4.toNat : Int), .int .u8 (a5.toNat : Int), .int .u8 (a6.toNat : Int), .int .u8 (a7.toNat : Int), .int .i64 (qK : Int), .int .i64 (qM : Int), .int .i64 (qB : Int), .string { data := #[] }, .int .i64 (qS : Int), .int .i64 (qI : Int), .int .i64 0, .int .i64 0]) := Lib.hid (k8.set_ 13 (.int .i64 (qI : Int)))
    have HBX8 : Hid (Below w.heap.size w (w8.setCell ⟨L, 13, none⟩ (.int .i64 (qI : Int)))) := Lib.hid ((HBX7.out.trans (ht.below HBX7.out.size fun i (hi : i = r) => by rw [hi]; exact hwrl)).setCell hLwl _)
    have HKX8 : Hid (Blk (w8.setCell ⟨L, 13, none⟩ (.int .i64 (qI : Int))) w.heap.size 28 zeroHd) := Lib.hid ((HKX7.out.touch ht hwr).far hLw _)
    clear hqI hrd ht k8
    go_wp2_with fail
    clear y8 yf8 wqI
    obtain ⟨qE, hqE⟩ : ∃ q, q = unle ((BS.drop 19).take 4) := ⟨_, rfl⟩
    have HqE := Lib.hid hqE
    have bqE : Hid (qE < 4294967296) := Lib.hid (by rw [hqE]; exact unle_bd _ 19 4)
    refine (take32_any r g2 32 d 19 BS (w8.setCell ⟨L, 13, none⟩ (.int .i64 (qI : Int))) HR8.out (by decide)).mono ?_
    rw [← hqE]
    rintro e w9 ⟨rfl, hrd, ht⟩
    have wqE : wrap64 (qE : Int) = (qE : Int) := wrap_u32 qE (Nat.lt_of_lt_of_le bqE.out (by decide))
    have k9 : Blk w9 L 28 #[.int .u8 (a0.toNat : Int), .int .u8 (a1.toNat : Int), .int .u8 (a2.toNat : Int), .int .u8 (a3.toNat : Int), .int .u8 (a4.toNat : Int), .int .u8 (a5.toNat : Int), .int .u8 (a6.toNat : Int), .int .u8 (a7.toNat : Int), .int .i64 (qK : Int), .int .i64 (qM : Int), .int .i64 (qB : Int), .string { data := #[] }, .int .i64 (qS : Int), .int .i64 (qI : Int), .int .i64 0, .int .i64 0] := HL8.out.touch ht hLr
    have y9 : w9.cell? ⟨L, 14, none⟩ = some (.int .i64 0) := k9.cell 14
    have yf9 : ∀ i, w9.frozen? ⟨L, i, none⟩ = false := k9.frozen
    have HR9 : Hid (RdAt (w9.setCell ⟨L, 14, none⟩ (.int .i64 (qE : Int))) r g2 32 d 23 BS) := Lib.hid (hrd.far hrL hgL 14 _)
    have HL9 : Hid (Blk (w9.setCell ⟨L, 14, none⟩ (.int .i64 (qE : Int))) L 28 #[.int .u8 (a0.toNat : Int), .int .u8 (a1.toNat : Int), .int .u8 (a2.toNat : Int), .int .u8 (a3.toNat : Int), .int .u8 (a4.toNat : Int), .int .u8 (a5.toNat : Int), .int .u8 (a6.toNat : Int), .int .u8 (a7.toNat : Int), .int .i64 (qK : Int), .int .i64 (qM : Int), .int .i64 (qB : Int), .string { data := #[] }, .int .i64 (qS : Int), .int .i64 (qI : Int), .int .i64 (qE : Int), .int .i64 0]) := Lib.hid (k9.set_ 14 (.int .i64 (qE : Int)))
    have HBX9 : Hid (Below w.heap.size w (w9.setCell ⟨L, 14, none⟩ (.int .i64 (qE : Int)))) := Lib.hid ((HBX8.out.trans (ht.below HBX8.out.size fun i (hi : i = r) => by rw [hi]; exact hwrl)).setCell hLwl _)
    have HKX9 : Hid (Blk (w9.setCell ⟨L, 14, none⟩ (.int .i64 (qE : Int))) w.heap.size 28 zeroHd) := Lib.hid ((HKX8.out.touch ht hwr).far hLw _)
    clear hqE hrd ht k9
    go_wp2_with fail
    clear y9 yf9 wqE
    obtain ⟨qC, hqC⟩ : ∃ q, q = unle ((BS.drop 23).take 4) := ⟨_, rfl⟩
    have HqC := Lib.hid hqC
    have bqC : Hid (qC < 4294967296) := Lib.hid (by rw [hqC]; exact unle_bd _ 23 4)
    refine (take32_any r g2 32 d 23 BS (w9.setCell ⟨L, 14, none⟩ (.int .i64 (qE : Int))) HR9.out (by decide)).mono ?_
    rw [← hqC]
    rintro e w10 ⟨rfl, hrd, ht⟩
    have wqC : wrap64 (qC : Int) = (qC : Int) := wrap_u32 qC (Nat.lt_of_lt_of_le bqC.out (by decide))
    have k10 : Blk w10 L 28 #[.int .u8 (a0.toNat : Int), .int .u8 (a1.toNat : Int), .int .u8 (a2.toNat : Int), .int .u8 (a3.toNat : Int), .int .u8 (a4.toNat : Int), .int .u8 (a5.toNat : Int), .int .u8 (a6.toNat : Int), .int .u8 (a7.toNat : Int), .int .i64 (qK : Int), .int .i64 (qM : Int), .int .i64 (qB : Int), .string { data := #[] }, .int .i64 (qS : Int), .int .i64 (qI : Int), .int .i64 (qE : Int), .int .i64 0] := HL9.out.touch ht hLr
    have y10 : w10.cell? ⟨L, 15, none⟩ = some (.int .i64 0) := k10.cell 15
    have yf10 : ∀ i, w10.frozen? ⟨L, i, none⟩ = false := k10.frozen
    have HR10 : Hid (RdAt (w10.setCell ⟨L, 15, none⟩ (.int .i64 (qC : Int))) r g2 32 d 27 BS) := Lib.hid (hrd.far hrL hgL 15 _)
    have HL10 : Hid (Blk (w10.setCell ⟨L, 15, none⟩ (.int .i64 (qC : Int))) L 28 #[.int .u8 (a0.toNat : Int), .int .u8 (a1.toNat : Int), .int .u8 (a2.toNat : Int), .int .u8 (a3.toNat : Int), .int .u8 (a4.toNat : Int), .int .u8 (a5.toNat : Int), .int .u8 (a6.toNat : Int), .int .u8 (a7.toNat : Int), .int .i64 (qK : Int), .int .i64 (qM : Int), .int .i64 (qB : Int), .string { data := #[] }, .int .i64 (qS : Int), .int .i64 (qI : Int), .int .i64 (qE : Int), .int .i64 (qC : Int)]) := Lib.hid (k10.set_ 15 (.int .i64 (qC : Int)))
    have HBX10 : Hid (Below w.heap.size w (w10.setCell ⟨L, 15, none⟩ (.int .i64 (qC : Int)))) := Lib.hid ((HBX9.out.trans (ht.below HBX9.out.size fun i (hi : i = r) => by rw [hi]; exact hwrl)).setCell hLwl _)
    have HKX10 : Hid (Blk (w10.setCell ⟨L, 15, none⟩ (.int .i64 (qC : Int))) w.heap.size 28 zeroHd) := Lib.hid ((HKX9.out.touch ht hwr).far hLw _)
    clear hqC hrd ht k10
    go_wp2_with fail
    clear y10 yf10 wqC
    obtain ⟨kn, hkn⟩ : ∃ q, q = unle ((BS.drop 27).take 1) := ⟨_, rfl⟩
    have Hkn := Lib.hid hkn
    have bkn : Hid (kn < 256) := Lib.hid (by rw [hkn]; exact unle_bd _ 27 1)
    refine (take8_any r g2 32 d 27 BS (w10.setCell ⟨L, 15, none⟩ (.int .i64 (qC : Int))) HR10.out (by decide)).mono ?_
    rw [← hkn]
    rintro e w11 ⟨rfl, hrd, ht⟩
    have wkn : wrap64 (kn : Int) = (kn : Int) := wrap_u32 kn (Nat.lt_of_lt_of_le bkn.out (by decide))
    have HR11 := Lib.hid hrd
    have HL11 : Hid (Blk w11 L 28 #[.int .u8 (a0.toNat : Int), .int .u8 (a1.toNat : Int), .int .u8 (a2.toNat : Int), .int .u8 (a3.toNat : Int), .int .u8 (a4.toNat : Int), .int .u8 (a5.toNat : Int), .int .u8 (a6.toNat : Int), .int .u8 (a7.toNat : Int), .int .i64 (qK : Int), .int .i64 (qM : Int), .int .i64 (qB : Int), .string { data := #[] }, .int .i64 (qS : Int), .int .i64 (qI : Int), .int .i64 (qE : Int), .int .i64 (qC : Int)]) := Lib.hid (HL10.out.touch ht hLr)
    have HBX11 : Hid (Below w.heap.size w w11) := Lib.hid (HBX10.out.trans (ht.below HBX10.out.size fun i (hi : i = r) => by rw [hi]; exact hwrl))
    have HKX11 : Hid (Blk w11 w.heap.size 28 zeroHd) := Lib.hid (HKX10.out.touch ht hwr)
    clear hkn hrd ht
    go_wp2_with fail
    rw [wkn]
    clear wkn
    obtain ⟨q1, hq1⟩ : ∃ q, q = unle ((BS.drop 28).take 4) := ⟨_, rfl⟩
    have Hq1 := Lib.hid hq1
    have bq1 : Hid (q1 < 4294967296) := Lib.hid (by rw [hq1]; exact unle_bd _ 28 4)
    refine (take32_any r g2 32 d 28 BS w11 HR11.out (by decide)).mono ?_
    rw [← hq1]
    rintro e w12 ⟨rfl, hrd, ht⟩
    have HR12 := Lib.hid hrd
    have HL12 : Hid (Blk w12 L 28 #[.int .u8 (a0.toNat : Int), .int .u8 (a1.toNat : Int), .int .u8 (a2.toNat : Int), .int .u8 (a3.toNat : Int), .int .u8 (a4.toNat : Int), .int .u8 (a5.toNat : Int), .int .u8 (a6.toNat : Int), .int .u8 (a7.toNat : Int), .int .i64 (qK : Int), .int .i64 (qM : Int), .int .i64 (qB : Int), .string { data := #[] }, .int .i64 (qS : Int), .int .i64 (qI : Int), .int .i64 (qE : Int), .int .i64 (qC : Int)]) := Lib.hid (HL11.out.touch ht hLr)
    have HBX12 : Hid (Below w.heap.size w w12) := Lib.hid (HBX11.out.trans (ht.below HBX11.out.size fun i (hi : i = r) => by rw [hi]; exact hwrl))
    have HKX12 : Hid (Blk w12 w.heap.size 28 zeroHd) := Lib.hid (HKX11.out.touch ht hwr)
    clear hq1 hrd ht
    have HX32 : Hid (Reads w12 w.heap.size 1 (some ⟨g, 0, none⟩) 32 ((bs.take 32).map B8)) := Lib.hid (by
      have := reads_take (HXC.out w12 HBX12.out) (j := 32) (Nat.le_trans (by decide) (Nat.le_add_left 36 m))
      rw [← List.map_take] at this; exact this)
    have hs12 := HBX12.out.size
    have HOF : Hid (Hd.ofB bs = ⟨[a0, a1, a2, a3, a4, a5, a6, a7], (qK : Int), (qM : Int), (qB : Int), (bs.drop 36).take kn, (qS : Int), (qI : Int), (qE : Int), (qC : Int)⟩ ∧ Hd.keyLen bs = kn ∧ unle ((bs.drop 32).take 4) = q1) := Lib.hid (by
      have h := HPT.out
      refine ⟨?_, by rw [h.2.1, ← Hkn.out], by rw [h.2.2, ← Hq1.out]⟩
      have hk : Hd.keyLen bs = kn := by rw [h.2.1, ← Hkn.out]
      rw [h.1, HST.out, ← HqK.out, ← HqM.out, ← HqB.out, ← HqS.out, ← HqI.out, ← HqE.out, ← HqC.out, hk])
    go_wp2_with fail
    refine (sum_any (some ⟨g, 0, none⟩) 32 (d2 + 36) (bs.take 32) w12 _ HX32.out hs12 (by decide)).mono ?_
    rintro e w13 ⟨rfl, hb13⟩
    have HL13 := Lib.hid (HL12.out.below hb13 HL12.out.lt)
    have HK13 := Lib.hid (HKX12.out.below hb13 HKX12.out.lt)
    have HB13 : Hid (Below w.heap.size w w13) := Lib.hid (HBX12.out.trans (hb13.mono hs12))
    have hs13 := HB13.out.size
    clear hb13
    obtain ⟨cs, hcs⟩ : ∃ q, q = crcSum (bs.take 32) := ⟨_, rfl⟩
    have HCS := Lib.hid hcs
    rw [← hcs]
    clear hcs
    by_cases hS : cs = q1
    case' neg =>
      have hS2 := bneI hS
      have hS3 : ¬ cs = q1 := hS
      have HBAD : Hid (Hd.openE bs = 82) := Lib.hid (open_sum (by rw [HL.out]; exact Nat.le_add_left _ _) HMG.out (by rw [← HCS.out, HOF.out.2.2]; exact hS))
      clear hS
      obtain ⟨W', hrun, hk', ht', _⟩ := store_zero HK13.out rfl
      go_wp2_with (refine wpList_store_at rfl 28 _ _ rfl ⟨w.heap.size, 0, none⟩ rfl (.agg zeroHd) rfl W' hrun ?_)
      refine bodyPost_ret (v := .tuple #[.agg zeroHd, .int .u32 0, .int .i64 82]) (results_cell3 Tryz.results129 _ ⟨w.heap.size, 0, none⟩ rfl (.agg zeroHd) _ _ (load_head hk' rfl)) rfl ⟨?_, HB13.out.trans (ht'.below HB13.out.size (fun k hk => Nat.le_of_eq hk.symm))⟩
      rw [open_no HBAD.out]
      rfl
    case' pos =>
      have hS2 := beqI hS
      have HSQ : Hid (crcSum (bs.take 32) = unle ((bs.drop 32).take 4)) := Lib.hid (by rw [← HCS.out, HOF.out.2.2]; exact hS)
      subst hS
      have hkn : kn ≤ 255 := Nat.le_of_lt_succ bkn.out
      have wk4 := w64kn hkn
      clear hkn
      by_cases hd0 : d2 = 0
      case' pos =>
        have hm00 : m = 0 := by have := HNC.out.1; clear wk4; omega
        have hlt : (m : Int) < (kn : Int) + 4 := by clear wk4; omega
        have HBAD : Hid (Hd.openE bs = 70) := Lib.hid (open_cut2 (by rw [HL.out]; exact Nat.le_add_left _ _) HMG.out HSQ.out (by rw [HL.out, HOF.out.2.1]; clear wk4; omega))
        obtain ⟨W', hrun, hk', ht', _⟩ := store_zero HK13.out rfl
        go_wp2_with (refine wpList_store_at rfl 28 _ _ rfl ⟨w.heap.size, 0, none⟩ rfl (.agg zeroHd) rfl W' hrun ?_)
        refine bodyPost_ret (v := .tuple #[.agg zeroHd, .int .u32 0, .int .i64 70]) (results_cell3 Tryz.results129 _ ⟨w.heap.size, 0, none⟩ rfl (.agg zeroHd) _ _ (load_head hk' rfl)) rfl ⟨?_, HB13.out.trans (ht'.below HB13.out.size (fun k hk => Nat.le_of_eq hk.symm))⟩
        rw [open_no HBAD.out]
        rfl
      case' neg =>
        by_cases hk4 : m < kn + 4
        case' pos =>
          have hlt : (m : Int) < (kn : Int) + 4 := by clear wk4; omega
          have HBAD : Hid (Hd.openE bs = 70) := Lib.hid (open_cut2 (by rw [HL.out]; exact Nat.le_add_left _ _) HMG.out HSQ.out (by rw [HL.out, HOF.out.2.1]; clear wk4; omega))
          obtain ⟨W', hrun, hk', ht', _⟩ := store_zero HK13.out rfl
          go_wp2_with (refine wpList_store_at rfl 28 _ _ rfl ⟨w.heap.size, 0, none⟩ rfl (.agg zeroHd) rfl W' hrun ?_)
          refine bodyPost_ret (v := .tuple #[.agg zeroHd, .int .u32 0, .int .i64 70]) (results_cell3 Tryz.results129 _ ⟨w.heap.size, 0, none⟩ rfl (.agg zeroHd) _ _ (load_head hk' rfl)) rfl ⟨?_, HB13.out.trans (ht'.below HB13.out.size (fun k hk => Nat.le_of_eq hk.symm))⟩
          rw [open_no HBAD.out]
          rfl
        case' neg =>
          have hlt : ¬ (m : Int) < (kn : Int) + 4 := by clear wk4; omega
          have hkd : (kn : Int) ≤ (d2 : Int) := by have := HNC.out.1; clear wk4; omega
          have hkd4 : (kn : Int) + 4 ≤ (d2 : Int) := by have := HNC.out.1; clear wk4; omega
          have hkd0 : ¬ d2 = kn := by have := HNC.out.1; clear wk4; omega
          have HM4 : Hid (kn + 4 ≤ m) := Lib.hid (by clear wk4; omega)
          have HXK : Hid (∀ W, Below w.heap.size w W → Reads W w.heap.size 1 (some ⟨g, 36, none⟩) kn (((bs.drop 36).take kn).map B8)) := Lib.hid fun W hW => by
            have hm := HM4.out
            have h := reads_take (reads_drop (HXC.out W hW) (j := 36) (by clear wk4; omega)) (j := kn) (by clear wk4; omega)
            rw [← List.map_drop, ← List.map_take, Nat.zero_add] at h
            exact h
          obtain ⟨KB, hKB⟩ : ∃ KB, KB = (bs.drop 36).take kn := ⟨_, rfl⟩
          have HKBL : Hid (KB.length = kn) := Lib.hid (by rw [hKB, List.length_take, List.length_drop, HL.out]; have := HM4.out; clear wk4; omega)
          have HKB := Lib.hid hKB
          rw [← hKB] at HXK HOF
          obtain ⟨KS, hKS⟩ : ∃ KS : ByteArray, KS = ⟨KB.toArray⟩ := ⟨_, rfl⟩
          have HKS := Lib.hid hKS
          have hcv : (convert 46 9 (.slice (some ⟨g, 36, none⟩) kn d2)).run Tryz.prog w13 = .ok (.string KS) w13 := by
            have h := HXK.out w13 HB13.out
            rw [hKS]
            rw [← HKBL.out] at h ⊢
            exact conv_any _ _ _ _ _ h
          clear hKB hKS hk4 hm0
          have y11 : w13.cell? ⟨L, 11, none⟩ = some (.string { data := #[] }) := HL13.out.cell 11
          have yf11 : ∀ i, w13.frozen? ⟨L, i, none⟩ = false := HL13.out.frozen
          go_wp2_with fail
          refine calls_world fun X14 hX14 => ?_
          have HL14 : Hid (Blk X14 L 28 #[.int .u8 (a0.toNat : Int), .int .u8 (a1.toNat : Int), .int .u8 (a2.toNat : Int), .int .u8 (a3.toNat : Int), .int .u8 (a4.toNat : Int), .int .u8 (a5.toNat : Int), .int .u8 (a6.toNat : Int), .int .u8 (a7.toNat : Int), .int .i64 (qK : Int), .int .i64 (qM : Int), .int .i64 (qB : Int), .string KS, .int .i64 (qS : Int), .int .i64 (qI : Int), .int .i64 (qE : Int), .int .i64 (qC : Int)]) := Lib.hid (by rw [hX14]; exact HL13.out.set_ 11 (.string KS))
          have HK14 : Hid (Blk X14 w.heap.size 28 zeroHd) := Lib.hid (by rw [hX14]; exact HK13.out.far hLw _)
          have HB14 : Hid (Below w.heap.size w X14) := Lib.hid (by rw [hX14]; exact HB13.out.setCell hLwl _)
          clear hX14 y11 yf11 hcv
          obtain ⟨q2, hq2⟩ : ∃ q, q = crcSum (bs.take 32 ++ KB) := ⟨_, rfl⟩
          have HQ2 := Lib.hid hq2
          have HM := Lib.hid (more_any cs (by rw [HCS.out]; exact crcSum_lt _) _ kn d2 KB X14 _ (HXK.out X14 HB14.out) HB14.out.size (Nat.le_trans (Nat.le_of_lt bkn.out) (by decide)))
          rw [show over (cs ^^^ 4294967295) KB ^^^ 4294967295 = q2 by rw [hq2, HCS.out, crc_more]] at HM
          clear hq2
          refine HM.out.mono ?_
          rintro e w15 ⟨rfl, hb15⟩
          have HL15 := Lib.hid (HL14.out.below hb15 HL14.out.lt)
          have HK15 := Lib.hid (HK14.out.below hb15 HK14.out.lt)
          have HB15 : Hid (Below w.heap.size w w15) := Lib.hid (HB14.out.trans (hb15.mono HB14.out.size))
          clear hb15 HM
          go_wp2_with fail
          obtain ⟨SB, hSB⟩ : ∃ SB, SB = (bs.drop (36 + kn)).take 4 := ⟨_, rfl⟩
          have HX5 : Hid (Reads w15 w.heap.size 1 (some ⟨g, 36 + kn, none⟩) 4 (SB.map B8)) := Lib.hid (by
            have hm := HM4.out
            have h := reads_take (reads_drop (HXC.out w15 HB15.out) (j := 36 + kn) (by clear wk4; omega)) (j := 4) (by clear wk4; omega)
            rw [← List.map_drop, ← List.map_take, Nat.zero_add, ← hSB] at h
            exact h)
          have HSBL : Hid (SB.length = 4) := Lib.hid (by rw [hSB, List.length_take, List.length_drop, HL.out]; have := HM4.out; clear wk4; omega)
          have HSB := Lib.hid hSB
          have hL15 := HL15.out.lt
          have hR15 := HK15.out.lt
          clear hSB wk4 hlt hkd hkd4 hkd0 hd0
          refine (open_any (some ⟨g, 36 + kn, none⟩) 4 _ SB w15 _ HX5.out (by decide) (by decide)).mono ?_
          rintro e w16 ⟨r5, g5, d5, rfl, hrd5, hr5, hg5, hb16⟩
          have hLr5 : ¬ L = r5 := by omega
          have hRr5 : ¬ w.heap.size = r5 := by omega
          have hRl5 : w.heap.size ≤ r5 := by omega
          have HL16 := Lib.hid (HL15.out.below hb16 hL15)
          have HK16 := Lib.hid (HK15.out.below hb16 hR15)
          have HB16 : Hid (Below w.heap.size w w16) := Lib.hid (HB15.out.trans (hb16.mono HB15.out.size))
          have HRD5 := Lib.hid hrd5
          clear hb16 hrd5 hr5 hg5
          go_wp2_with fail
          refine (take32_any r5 g5 4 d5 0 SB w16 HRD5.out (by decide)).mono ?_
          have HS5 : Hid ((SB.drop 0).take 4 = SB) := Lib.hid (by rw [List.drop_zero, List.take_of_length_le (by rw [HSBL.out]; exact Nat.le_refl _)])
          rw [HS5.out]
          obtain ⟨q5, hq5⟩ : ∃ q, q = unle SB := ⟨_, rfl⟩
          have HQ5 := Lib.hid hq5
          rw [← hq5]
          clear hq5
          rintro e w17 ⟨rfl, hrd6, ht6⟩
          have HL17 := Lib.hid (HL16.out.touch ht6 hLr5)
          have HK17 := Lib.hid (HK16.out.touch ht6 hRr5)
          have HB17 : Hid (Below w.heap.size w w17) := Lib.hid (HB16.out.trans (ht6.below HB16.out.size fun i (hi : i = r5) => by rw [hi]; exact hRl5))
          clear hrd6 ht6
          have HT5 : Hid (unle ((bs.drop (36 + Hd.keyLen bs)).take 4) = q5 ∧ crcSum (bs.take 32 ++ (bs.drop 36).take (Hd.keyLen bs)) = q2 ∧ 40 + Hd.keyLen bs ≤ bs.length) := Lib.hid (by
            rw [HOF.out.2.1, ← HKB.out, ← HSB.out, HQ5.out, HQ2.out, HL.out]
            exact ⟨rfl, rfl, by have := HM4.out; omega⟩)
          by_cases hS5 : q5 = q2
          case' neg =>
            have hS2' := bneI hS5
            have HBAD : Hid (Hd.openE bs = 82) := Lib.hid (open_sum2 HMG.out HSQ.out HT5.out.2.2 (by rw [HT5.out.1, HT5.out.2.1]; exact hS5))
            clear hS5
            obtain ⟨W', hrun, hk', ht', _⟩ := store_zero HK17.out rfl
            go_wp2_with (refine wpList_store_at rfl 28 _ _ rfl ⟨w.heap.size, 0, none⟩ rfl (.agg zeroHd) rfl W' hrun ?_)
            refine bodyPost_ret (v := .tuple #[.agg zeroHd, .int .u32 0, .int .i64 82]) (results_cell3 Tryz.results129 _ ⟨w.heap.size, 0, none⟩ rfl (.agg zeroHd) _ _ (load_head hk' rfl)) rfl ⟨?_, HB17.out.trans (ht'.below HB17.out.size (fun k hk => Nat.le_of_eq hk.symm))⟩
            rw [open_no HBAD.out]
            rfl
          case' pos =>
            have hS2' := beqI hS5
            have HMY : Hid (Hd.openE bs = if (Hd.ofB bs).may ≠ 0 then 81 else 0) := Lib.hid (open_may HMG.out HSQ.out HT5.out.2.2 (by rw [HT5.out.1, HT5.out.2.1]; exact hS5))
            clear hS5
            obtain ⟨CK, hCK⟩ : ∃ CK : Array Value, CK = #[.int .u8 (a0.toNat : Int), .int .u8 (a1.toNat : Int), .int .u8 (a2.toNat : Int), .int .u8 (a3.toNat : Int), .int .u8 (a4.toNat : Int), .int .u8 (a5.toNat : Int), .int .u8 (a6.toNat : Int), .int .u8 (a7.toNat : Int), .int .i64 (qK : Int), .int .i64 (qM : Int), .int .i64 (qB : Int), .string KS, .int .i64 (qS : Int), .int .i64 (qI : Int), .int .i64 (qE : Int), .int .i64 (qC : Int)] := ⟨_, rfl⟩
            have HCK : Hid (CK.size = 16) := Lib.hid (by rw [hCK]; rfl)
            have HONE : Hid (∀ v ∈ CK.toList, v.oneCell' = true) := Lib.hid (by
              have h1 : CK.toList.all (fun v => v.oneCell') = true := by rw [hCK]; rfl
              exact fun v hv => List.all_eq_true.1 h1 v hv)
            have HHV : Hid (hdV (Hd.ofB bs) = .agg CK) := Lib.hid (by rw [HOF.out.1, hCK, HKS.out]; rfl)
            have HWF : Hid ((Hd.ofB bs).Wf) := Lib.hid (by
              have b1 := bqK.out; have b2 := bqM.out; have b3 := bqB.out; have b4 := bqS.out
              rw [HOF.out.1]
              exact ⟨rfl, ⟨by simp only; omega, by simp only; omega⟩, ⟨by simp only; omega, by simp only; omega⟩, ⟨by simp only; omega, by simp only; omega⟩, ⟨by simp only; omega, by simp only; omega⟩⟩)
            have HLK : Hid (Blk w17 L 28 CK) := Lib.hid (by rw [hCK]; exact HL17.out)
            have HC := Lib.hid (fcheck_any (Hd.ofB bs) HWF.out w17)
            rw [HHV.out] at HC
            clear hCK
            go_wp2_with (refine wpList_load_at rfl 28 _ rfl ⟨L, 0, none⟩ rfl (.agg CK) (load_head HLK.out HCK.out) ?_)
            refine HC.out.mono ?_
            rintro e w18 ⟨rfl, hb18⟩
            have HL18 := Lib.hid (HLK.out.below hb18 HLK.out.lt)
            have HK18 := Lib.hid (HK17.out.below hb18 HK17.out.lt)
            have HB18 : Hid (Below w.heap.size w w18) := Lib.hid (HB17.out.trans (hb18.mono HB17.out.size))
            clear hb18
            by_cases hmy : (Hd.ofB bs).may = 0
            case' neg =>
              have HBAD : Hid (Hd.openE bs = 81) := Lib.hid (by rw [HMY.out, if_pos hmy])
              obtain ⟨my, hmy2⟩ : ∃ my, my = (Hd.ofB bs).may := ⟨_, rfl⟩
              rw [← hmy2] at hmy ⊢
              have hm2 : (my != 0) = true := by simp [hmy]
              clear hmy hmy2
              obtain ⟨W', hrun, hk', ht', _⟩ := store_zero HK18.out rfl
              go_wp2_with (refine wpList_store_at rfl 28 _ _ rfl ⟨w.heap.size, 0, none⟩ rfl (.agg zeroHd) rfl W' hrun ?_)
              refine bodyPost_ret (v := .tuple #[.agg zeroHd, .int .u32 0, .int .i64 81]) (results_cell3 Tryz.results129 _ ⟨w.heap.size, 0, none⟩ rfl (.agg zeroHd) _ _ (load_head hk' rfl)) rfl ⟨?_, HB18.out.trans (ht'.below HB18.out.size (fun k hk => Nat.le_of_eq hk.symm))⟩
              rw [open_no HBAD.out]
              rfl
            case' pos =>
              have HOKE : Hid (Hd.openE bs = 0) := Lib.hid (by rw [HMY.out, if_neg (by rw [hmy]; decide)])
              rw [hmy]
              clear hmy
              obtain ⟨W', hrun, hk', ht', _⟩ := run_storeVar_whole (P := Tryz.prog) 28 (vs := CK) HK18.out (by rw [HCK.out]; kernel_rfl) (by rw [HCK.out]; rfl) HONE.out
              go_wp2_with (first
                | (refine wpList_load_at rfl 28 _ rfl ⟨L, 0, none⟩ rfl (.agg CK) (load_head HL18.out HCK.out) ?_)
                | (refine wpList_store_at rfl 28 _ _ rfl ⟨w.heap.size, 0, none⟩ rfl (.agg CK) rfl W' hrun ?_))
              refine bodyPost_ret (v := .tuple #[.agg CK, .int .u32 (q2 : Int), .int .i64 0]) (results_cell3 Tryz.results129 _ ⟨w.heap.size, 0, none⟩ rfl (.agg CK) _ _ (load_head hk' HCK.out)) rfl ⟨?_, HB18.out.trans (ht'.below HB18.out.size (fun k hk => Nat.le_of_eq hk.symm))⟩
              rw [open_ok HOKE.out, HHV.out, HT5.out.2.1]
end Go.Proofs.YtcbebefdbdppdaaGreat
namespace Go.Proofs.YtcbebefdbdppdaaGreat
open Go.RowKit Go.Maps
theorem fopen_any (A : Option Addr) (n c b : Nat) (bs : List UInt8) (w : World) (ho : w.ownsRow b 5 1 (.slice A n c) n (bs.map B8)) (hbig : n ≤ 1099511627776) : Calls Tryz.prog 129 #[.slice A n c] w fun e w' => e = .returned (.tuple #[hdV (Hd.openH bs), .int .u32 ((Hd.openS bs : Nat) : Int), .int .i64 (Hd.openE bs)]) ∧ Below w.heap.size w w' := by
  have hl : bs.length = n := by have := ho.1; simpa using this
  by_cases hn : n < 36
  · exact open_short A n c bs w hn hl
  · have hr := Reads.of_own ho
    obtain ⟨g, rfl, hnc⟩ : ∃ g, A = some ⟨g, 0, none⟩ ∧ n ≤ c := by
      rcases ho.2 with ⟨_, h0⟩ | ⟨g, cap, cur, hv, _, _, hnc, _⟩
      · exfalso
        rw [h0] at hl
        omega
      · injection hv with h1 h2 h3
        exact ⟨g, h1, by omega⟩
    by_cases hM : bs.take 4 = Hd.magic
    · obtain ⟨m, rfl⟩ : ∃ m, n = m + 36 := ⟨n - 36, by omega⟩
      obtain ⟨d2, rfl⟩ : ∃ d2, c = d2 + 36 := ⟨c - 36, by omega⟩
      exact open_right g m d2 bs w _ hr (Nat.le_refl _) (by omega) hbig hM
    · exact open_magic g n c bs w _ hr (Nat.le_refl _) (by omega) hnc hM
theorem openH_st (bs : List UInt8) : (Hd.openH bs).st.length = 8 := by
  unfold Hd.openH
  split
  · rename_i h; exact (open_fixed h).2.2.2.2.2
  · rfl
theorem hd_one (h : Hd) : ∀ v ∈ (hdCells h).toList, v.oneCell' = true := by
  intro v hv
  unfold hdCells at hv
  rw [List.toList_toArray] at hv
  rcases List.mem_append.1 hv with h1 | h1
  · obtain ⟨x, _, rfl⟩ := List.mem_map.1 h1; rfl
  · simp only [List.mem_cons, List.not_mem_nil, or_false] at h1
    rcases h1 with rfl | rfl | rfl | rfl | rfl | rfl | rfl | rfl <;> rfl
theorem store_hd {w : World} {R : Nat} {cur CK : Array Value} (h : Blk w R 28 cur) (hs : cur.size = 16) (hc : CK.size = 16) (h1 : ∀ v ∈ CK.toList, v.oneCell' = true) : ∃ w', (storeVar 28 ⟨R, 0, none⟩ (.agg CK)).run Tryz.prog w = .ok () w' ∧ Blk w' R 28 CK ∧ Touch (· = R) w w' ∧ w'.heap.size = w.heap.size :=
  run_storeVar_whole 28 h (by rw [hc]; exact headInfo) (by rw [hs, hc]) h1
set_option maxRecDepth 100000 in
set_option maxHeartbeats 4000000 in
theorem fparseHead_any (A : Option Addr) (n c b : Nat) (bs : List UInt8) (w : World) (ho : w.ownsRow b 5 1 (.slice A n c) n (bs.map B8)) (hbig : n ≤ 1099511627776) : Calls Tryz.prog 71 #[.slice A n c] w fun e w' => e = .returned (.tuple #[hdV (Hd.openH bs), .int .i64 (Hd.openE bs)]) ∧ Below w.heap.size w w' := by
  obtain ⟨W0, hW0⟩ : ∃ W0, W0 = w.alloc (.cells zeroHd 28) := ⟨_, rfl⟩
  have HK0 : Hid (Blk W0 w.heap.size 28 zeroHd) := Lib.hid (by rw [hW0]; exact Blk.new _ _ _)
  have HB0 : Hid (Below w.heap.size w W0) := Lib.hid (by rw [hW0]; exact (Below.refl _ w).alloc (Nat.le_refl _) _)
  have hs0 : W0.heap.size = w.heap.size + 1 := by rw [hW0, alloc_size]
  have HO := Lib.hid (fopen_any A n c b bs W0 (by rw [hW0]; exact ho.alloc _) hbig)
  have hcs := hdCells_size (openH_st bs)
  have hon := hd_one (Hd.openH bs)
  unfold hdV at HO ⊢
  obtain ⟨CK, hCK⟩ : ∃ CK, CK = hdCells (Hd.openH bs) := ⟨_, rfl⟩
  obtain ⟨q, hq⟩ : ∃ q, q = Hd.openS bs := ⟨_, rfl⟩
  obtain ⟨x, hx⟩ : ∃ x, x = Hd.openE bs := ⟨_, rfl⟩
  rw [← hCK] at HO hcs hon ⊢
  rw [← hq] at HO
  rw [← hx] at HO ⊢
  have HEQ := Lib.hid hW0
  have HCS := Lib.hid hcs
  have HON := Lib.hid hon
  clear ho hbig hCK hq hx hW0 hcs hon
  go_enter Tryz.func71, Tryz.ntmps71
  go_wp2_with fail
  refine calls_world fun X0 hX0 => ?_
  obtain rfl : X0 = W0 := by rw [hX0, HEQ.out]; rfl
  refine HO.out.mono ?_
  rintro e w1 ⟨rfl, hb1⟩
  have h1 := hb1.size
  have HK1 := Lib.hid (HK0.out.below hb1 HK0.out.lt)
  have HB1 : Hid (Below w.heap.size w w1) := Lib.hid (HB0.out.trans (hb1.mono HB0.out.size))
  clear hb1 hX0
  obtain ⟨W1, hr1, hk1, ht1, hz1⟩ := store_hd (w := w1.alloc (.cells zeroHd 28)) (R := w1.heap.size) (Blk.new _ _ _) rfl HCS.out HON.out
  have hR1 : ¬ w.heap.size = w1.heap.size := by have := HK1.out.lt; omega
  have HKR := Lib.hid ((HK1.out.alloc (.cells zeroHd 28)).touch ht1 hR1)
  have HBR : Hid (Below w.heap.size w W1) := Lib.hid ((HB1.out.alloc HB1.out.size _).trans (ht1.below (by rw [alloc_size]; exact Nat.le_succ_of_le HB1.out.size) (fun k hk => by rw [hk]; exact HB1.out.size)))
  have HK4 := Lib.hid hk1
  obtain ⟨W2, hr2, hk2, ht2, _⟩ := store_hd HKR.out rfl HCS.out HON.out
  clear hk1 ht1 hz1
  go_wp2_with (first
    | (refine wpList_store_at rfl 28 _ _ rfl ⟨w1.heap.size, 0, none⟩ rfl (.agg CK) rfl W1 hr1 ?_)
    | (refine wpList_load_at rfl 28 _ rfl ⟨w1.heap.size, 0, none⟩ rfl (.agg CK) (load_head HK4.out HCS.out) ?_)
    | (refine wpList_store_at rfl 28 _ _ rfl ⟨w.heap.size, 0, none⟩ rfl (.agg CK) rfl W2 hr2 ?_))
  exact bodyPost_ret (v := .tuple #[.agg CK, .int .i64 x]) (results_cell2 Tryz.results71 _ ⟨w.heap.size, 0, none⟩ rfl (.agg CK) _ _ (load_head hk2 HCS.out)) rfl ⟨rfl, HBR.out.trans (ht2.below HBR.out.size (fun k hk => Nat.le_of_eq hk.symm))⟩
end Go.Proofs.YtcbebefdbdppdaaGreat

/- LabelBack and LabelOne: the walks. -/
import Derived.Test.YtdiaihpilniikaaKv
namespace Go.Proofs.Ytdiaihpilniikaa
open Go.RowKit Go.Maps

theorem may_two (l : Lab) (h : l.may ≠ 0) : l.may = 4 ∨ l.may = 2 := by
  by_cases h1 : l.m < 1 ∨ l.k < l.m ∨ 255 - l.m < l.k ∨ l.b < 1 ∨ 65536 < l.b
  · exact .inl (if_pos h1)
  · by_cases h2 : l.i < 0 ∨ l.k + l.m ≤ l.i ∨ l.e < 0 ∨ 4294967295 < l.e
    · exact .inr ((if_neg h1).trans (if_pos h2))
    · exact absurd ((if_neg h1).trans (if_neg h2)) h
/-- A label's value, its parts hidden. -/
theorem agg_hid (l : Lab) (h : l.st.length = 8) : ∃ (a0 a1 a2 a3 a4 a5 a6 a7 : UInt8) (n0 n1 n2 n3 n4 : Int), labV l = .agg #[.int .u8 (a0.toNat : Int), .int .u8 (a1.toNat : Int), .int .u8 (a2.toNat : Int), .int .u8 (a3.toNat : Int), .int .u8 (a4.toNat : Int), .int .u8 (a5.toNat : Int), .int .u8 (a6.toNat : Int), .int .u8 (a7.toNat : Int), .int .i64 n0, .int .i64 n1, .int .i64 n2, .int .i64 n3, .int .i64 n4] := by
  obtain ⟨a0, a1, a2, a3, a4, a5, a6, a7, e⟩ := agg_of l h
  exact ⟨a0, a1, a2, a3, a4, a5, a6, a7, _, _, _, _, _, e⟩
theorem own_head {w : World} {base n : Nat} {A : Option Addr} {c : Nat} {e : TypeId} {xs : List Value} (h : w.ownsRow base e 1 (.slice A n c) n xs) (hn : 0 < n) : ∃ g, A = some ⟨g, 0, none⟩ := by
  rcases h.2 with ⟨_, h0⟩ | ⟨g', cap, cur, hv, _⟩
  · omega
  · injection hv with e1 e2 e3; exact ⟨g', e1⟩

set_option maxRecDepth 100000 in
set_option maxHeartbeats 8000000 in
theorem labelBack_walk (l : Lab) (hl : l.Wf) (w : World) : Calls Try.prog 6 #[labV l] w fun e w' => e = .returned (.bool true) ∧ Below w.heap.size w w' := by
  have HFT := Lib.hid (fun W => fit_any l hl W)
  have HES := Lib.hid (lab_eql l hl.st)
  by_cases hm : l.may = 0
  · have HEN : Hid (∀ W, Calls Try.prog 15 #[labV l] W fun e w' => ∃ g c, e = .returned (.tuple #[.slice (some ⟨g, 0, none⟩) 31 c, .int .i64 0]) ∧ w'.ownsRow W.heap.size 5 1 (.slice (some ⟨g, 0, none⟩) 31 c) 31 (l.bytes.map B8) ∧ Below W.heap.size W w' ∧ 31 ≤ c) := Lib.hid fun W => by
      refine (encode_ok l hl hm W).mono ?_
      rintro e w' ⟨u, he, ho, hb⟩
      obtain ⟨A, c, rfl, hle⟩ := own_shape ho
      obtain ⟨g, rfl⟩ := own_head ho (by decide)
      exact ⟨g, c, he, ho, hb, hle⟩
    have HPA : Hid (∀ (V : World) (g c B : Nat), Reads V B 1 (some ⟨g, 0, none⟩) 31 (l.bytes.map B8) → B ≤ V.heap.size → 31 ≤ c → Calls Try.prog 17 #[.slice (some ⟨g, 0, none⟩) 31 c] V fun e w' => e = .returned (.tuple #[labV l, .int .i64 0]) ∧ Below V.heap.size V w') := Lib.hid fun V g c B hx hB hc => by
      have h := parse_any (some ⟨g, 0, none⟩) 31 c l.bytes V B hx hB hc (fun _ => ⟨g, rfl⟩)
      rw [Lab.parse_bytes l hl.st hm] at h
      exact h
    have HF2 : Hid (∀ W, Calls Try.prog 19 #[labV l] W fun e w' => e = .returned (.bool true) ∧ Below W.heap.size W w') := Lib.hid fun W => by have h := HFT.out W; rw [decide_eq_true hm] at h; exact h
    obtain ⟨a0, a1, a2, a3, a4, a5, a6, a7, n0, n1, n2, n3, n4, hv⟩ := agg_hid l hl.st
    rw [hv] at HEN HPA HF2 HES ⊢
    have hes := HES.out
    clear hl hm hv HFT HES
    go_enter Try.func6, Try.ntmps6
    go_wp2_with (first
      | (go_at_call 15; refine (HEN.out _).mono ?_; rintro e w1 ⟨g, c, rfl, ho, hb, hc31⟩; have HO1 := Lib.hid ho; have HB1 := Lib.hid hb; have K1 := Lib.hid ((Blk.new w _ _).below hb (by rw [alloc_size]; omega)); have hs1 := hb.size; rw [alloc_size] at hs1; have w1y0 : w1.cell? ⟨w.heap.size, 0, none⟩ = some (.int .u8 (a0.toNat : Int)) := K1.out.cell 0; have w1y1 : w1.cell? ⟨w.heap.size, 1, none⟩ = some (.int .u8 (a1.toNat : Int)) := K1.out.cell 1; have w1y2 : w1.cell? ⟨w.heap.size, 2, none⟩ = some (.int .u8 (a2.toNat : Int)) := K1.out.cell 2; have w1y3 : w1.cell? ⟨w.heap.size, 3, none⟩ = some (.int .u8 (a3.toNat : Int)) := K1.out.cell 3; have w1y4 : w1.cell? ⟨w.heap.size, 4, none⟩ = some (.int .u8 (a4.toNat : Int)) := K1.out.cell 4; have w1y5 : w1.cell? ⟨w.heap.size, 5, none⟩ = some (.int .u8 (a5.toNat : Int)) := K1.out.cell 5; have w1y6 : w1.cell? ⟨w.heap.size, 6, none⟩ = some (.int .u8 (a6.toNat : Int)) := K1.out.cell 6; have w1y7 : w1.cell? ⟨w.heap.size, 7, none⟩ = some (.int .u8 (a7.toNat : Int)) := K1.out.cell 7; have w1y8 : w1.cell? ⟨w.heap.size, 8, none⟩ = some (.int .i64 n0) := K1.out.cell 8; have w1y9 : w1.cell? ⟨w.heap.size, 9, none⟩ = some (.int .i64 n1) := K1.out.cell 9; have w1y10 : w1.cell? ⟨w.heap.size, 10, none⟩ = some (.int .i64 n2) := K1.out.cell 10; have w1y11 : w1.cell? ⟨w.heap.size, 11, none⟩ = some (.int .i64 n3) := K1.out.cell 11; have w1y12 : w1.cell? ⟨w.heap.size, 12, none⟩ = some (.int .i64 n4) := K1.out.cell 12; clear ho hb)
      | (go_at_call 13; refine (known_any _).mono ?_; rintro e w2 ⟨rfl, hb⟩; have HO2 := Lib.hid (ownsRow_below HO1.out hb); have HB2 := Lib.hid hb; have K2 := Lib.hid (K1.out.below hb K1.out.lt); have hs2 := hb.size; have w2y0 : w2.cell? ⟨w.heap.size, 0, none⟩ = some (.int .u8 (a0.toNat : Int)) := K2.out.cell 0; have w2y1 : w2.cell? ⟨w.heap.size, 1, none⟩ = some (.int .u8 (a1.toNat : Int)) := K2.out.cell 1; have w2y2 : w2.cell? ⟨w.heap.size, 2, none⟩ = some (.int .u8 (a2.toNat : Int)) := K2.out.cell 2; have w2y3 : w2.cell? ⟨w.heap.size, 3, none⟩ = some (.int .u8 (a3.toNat : Int)) := K2.out.cell 3; have w2y4 : w2.cell? ⟨w.heap.size, 4, none⟩ = some (.int .u8 (a4.toNat : Int)) := K2.out.cell 4; have w2y5 : w2.cell? ⟨w.heap.size, 5, none⟩ = some (.int .u8 (a5.toNat : Int)) := K2.out.cell 5; have w2y6 : w2.cell? ⟨w.heap.size, 6, none⟩ = some (.int .u8 (a6.toNat : Int)) := K2.out.cell 6; have w2y7 : w2.cell? ⟨w.heap.size, 7, none⟩ = some (.int .u8 (a7.toNat : Int)) := K2.out.cell 7; have w2y8 : w2.cell? ⟨w.heap.size, 8, none⟩ = some (.int .i64 n0) := K2.out.cell 8; have w2y9 : w2.cell? ⟨w.heap.size, 9, none⟩ = some (.int .i64 n1) := K2.out.cell 9; have w2y10 : w2.cell? ⟨w.heap.size, 10, none⟩ = some (.int .i64 n2) := K2.out.cell 10; have w2y11 : w2.cell? ⟨w.heap.size, 11, none⟩ = some (.int .i64 n3) := K2.out.cell 11; have w2y12 : w2.cell? ⟨w.heap.size, 12, none⟩ = some (.int .i64 n4) := K2.out.cell 12; clear hb)
      | (go_at_call 19; refine (HF2.out _).mono ?_; rintro e w3 ⟨rfl, hb⟩; have HO3 := Lib.hid (ownsRow_below HO2.out hb); have HB3 := Lib.hid hb; have K3 := Lib.hid (K2.out.below hb K2.out.lt); have hs3 := hb.size; have w3y0 : w3.cell? ⟨w.heap.size, 0, none⟩ = some (.int .u8 (a0.toNat : Int)) := K3.out.cell 0; have w3y1 : w3.cell? ⟨w.heap.size, 1, none⟩ = some (.int .u8 (a1.toNat : Int)) := K3.out.cell 1; have w3y2 : w3.cell? ⟨w.heap.size, 2, none⟩ = some (.int .u8 (a2.toNat : Int)) := K3.out.cell 2; have w3y3 : w3.cell? ⟨w.heap.size, 3, none⟩ = some (.int .u8 (a3.toNat : Int)) := K3.out.cell 3; have w3y4 : w3.cell? ⟨w.heap.size, 4, none⟩ = some (.int .u8 (a4.toNat : Int)) := K3.out.cell 4; have w3y5 : w3.cell? ⟨w.heap.size, 5, none⟩ = some (.int .u8 (a5.toNat : Int)) := K3.out.cell 5; have w3y6 : w3.cell? ⟨w.heap.size, 6, none⟩ = some (.int .u8 (a6.toNat : Int)) := K3.out.cell 6; have w3y7 : w3.cell? ⟨w.heap.size, 7, none⟩ = some (.int .u8 (a7.toNat : Int)) := K3.out.cell 7; have w3y8 : w3.cell? ⟨w.heap.size, 8, none⟩ = some (.int .i64 n0) := K3.out.cell 8; have w3y9 : w3.cell? ⟨w.heap.size, 9, none⟩ = some (.int .i64 n1) := K3.out.cell 9; have w3y10 : w3.cell? ⟨w.heap.size, 10, none⟩ = some (.int .i64 n2) := K3.out.cell 10; have w3y11 : w3.cell? ⟨w.heap.size, 11, none⟩ = some (.int .i64 n3) := K3.out.cell 11; have w3y12 : w3.cell? ⟨w.heap.size, 12, none⟩ = some (.int .i64 n4) := K3.out.cell 12; clear hb)
      | (go_at_call 17; refine (HPA.out w3 g c _ (Reads.of_own HO3.out) (Nat.le_refl _) hc31).mono ?_; rintro e w4 ⟨rfl, hb⟩; have HB4 := Lib.hid hb; have K4 := Lib.hid (K3.out.below hb K3.out.lt); have hs4 := hb.size; have hl4 := K4.out.lt; have w4y0 : w4.cell? ⟨w.heap.size, 0, none⟩ = some (.int .u8 (a0.toNat : Int)) := K4.out.cell 0; have w4y1 : w4.cell? ⟨w.heap.size, 1, none⟩ = some (.int .u8 (a1.toNat : Int)) := K4.out.cell 1; have w4y2 : w4.cell? ⟨w.heap.size, 2, none⟩ = some (.int .u8 (a2.toNat : Int)) := K4.out.cell 2; have w4y3 : w4.cell? ⟨w.heap.size, 3, none⟩ = some (.int .u8 (a3.toNat : Int)) := K4.out.cell 3; have w4y4 : w4.cell? ⟨w.heap.size, 4, none⟩ = some (.int .u8 (a4.toNat : Int)) := K4.out.cell 4; have w4y5 : w4.cell? ⟨w.heap.size, 5, none⟩ = some (.int .u8 (a5.toNat : Int)) := K4.out.cell 5; have w4y6 : w4.cell? ⟨w.heap.size, 6, none⟩ = some (.int .u8 (a6.toNat : Int)) := K4.out.cell 6; have w4y7 : w4.cell? ⟨w.heap.size, 7, none⟩ = some (.int .u8 (a7.toNat : Int)) := K4.out.cell 7; have w4y8 : w4.cell? ⟨w.heap.size, 8, none⟩ = some (.int .i64 n0) := K4.out.cell 8; have w4y9 : w4.cell? ⟨w.heap.size, 9, none⟩ = some (.int .i64 n1) := K4.out.cell 9; have w4y10 : w4.cell? ⟨w.heap.size, 10, none⟩ = some (.int .i64 n2) := K4.out.cell 10; have w4y11 : w4.cell? ⟨w.heap.size, 11, none⟩ = some (.int .i64 n3) := K4.out.cell 11; have w4y12 : w4.cell? ⟨w.heap.size, 12, none⟩ = some (.int .i64 n4) := K4.out.cell 12; clear hb))
    go_ret
    refine ⟨rfl, ?_⟩
    exact ((((((Below.refl _ w).alloc (Nat.le_refl _) _).trans (HB1.out.mono (by rw [alloc_size]; omega))).trans (HB2.out.mono (by omega))).trans (HB3.out.mono (by omega))).trans (HB4.out.mono (by omega))).alloc (by omega) _
  · have HEB : Hid (∀ W, Calls Try.prog 15 #[labV l] W fun e w' => e = .returned (.tuple #[.slice none 0 0, .int .i64 l.may]) ∧ Below W.heap.size W w') := Lib.hid (encode_bad l hl hm)
    have HF2 : Hid (∀ W, Calls Try.prog 19 #[labV l] W fun e w' => e = .returned (.bool false) ∧ Below W.heap.size W w') := Lib.hid fun W => by have h := HFT.out W; rw [decide_eq_false hm] at h; exact h
    obtain ⟨a0, a1, a2, a3, a4, a5, a6, a7, n0, n1, n2, n3, n4, hv⟩ := agg_hid l hl.st
    rw [hv] at HEB HF2 ⊢
    have h42 := may_two l hm
    obtain ⟨y, hy⟩ : ∃ y, y = l.may := ⟨_, rfl⟩
    rw [← hy] at HEB h42
    clear hl hm hv HFT HES hy
    rcases h42 with rfl | rfl
    all_goals
      go_enter Try.func6, Try.ntmps6
      go_wp2_with (first
        | (go_at_call 15; refine (HEB.out _).mono ?_; rintro e w1 ⟨rfl, hb⟩; have HB1 := Lib.hid hb; have K1 := Lib.hid ((Blk.new w _ _).below hb (by rw [alloc_size]; omega)); have hs1 := hb.size; rw [alloc_size] at hs1; clear hb)
        | (go_at_call 13; refine (known_any _).mono ?_; rintro e w2 ⟨rfl, hb⟩; have HB2 := Lib.hid hb; have K2 := Lib.hid (K1.out.below hb K1.out.lt); have hs2 := hb.size; have w2y0 : w2.cell? ⟨w.heap.size, 0, none⟩ = some (.int .u8 (a0.toNat : Int)) := K2.out.cell 0; have w2y1 : w2.cell? ⟨w.heap.size, 1, none⟩ = some (.int .u8 (a1.toNat : Int)) := K2.out.cell 1; have w2y2 : w2.cell? ⟨w.heap.size, 2, none⟩ = some (.int .u8 (a2.toNat : Int)) := K2.out.cell 2; have w2y3 : w2.cell? ⟨w.heap.size, 3, none⟩ = some (.int .u8 (a3.toNat : Int)) := K2.out.cell 3; have w2y4 : w2.cell? ⟨w.heap.size, 4, none⟩ = some (.int .u8 (a4.toNat : Int)) := K2.out.cell 4; have w2y5 : w2.cell? ⟨w.heap.size, 5, none⟩ = some (.int .u8 (a5.toNat : Int)) := K2.out.cell 5; have w2y6 : w2.cell? ⟨w.heap.size, 6, none⟩ = some (.int .u8 (a6.toNat : Int)) := K2.out.cell 6; have w2y7 : w2.cell? ⟨w.heap.size, 7, none⟩ = some (.int .u8 (a7.toNat : Int)) := K2.out.cell 7; have w2y8 : w2.cell? ⟨w.heap.size, 8, none⟩ = some (.int .i64 n0) := K2.out.cell 8; have w2y9 : w2.cell? ⟨w.heap.size, 9, none⟩ = some (.int .i64 n1) := K2.out.cell 9; have w2y10 : w2.cell? ⟨w.heap.size, 10, none⟩ = some (.int .i64 n2) := K2.out.cell 10; have w2y11 : w2.cell? ⟨w.heap.size, 11, none⟩ = some (.int .i64 n3) := K2.out.cell 11; have w2y12 : w2.cell? ⟨w.heap.size, 12, none⟩ = some (.int .i64 n4) := K2.out.cell 12; clear hb)
        | (go_at_call 19; refine (HF2.out _).mono ?_; rintro e w3 ⟨rfl, hb⟩; have HB3 := Lib.hid hb; clear hb))
      go_ret
      refine ⟨rfl, ?_⟩
      exact (((((Below.refl _ w).alloc (Nat.le_refl _) _).trans (HB1.out.mono (by rw [alloc_size]; omega))).trans (HB2.out.mono (by omega))).trans (HB3.out.mono (by omega)))

theorem conv_at (w : World) (B : Nat) (a : Option Addr) (bs : List UInt8) (n c : Nat) (h : Reads w B 1 a n (bs.map B8)) : (convert 33 9 (.slice a n c)).run Try.prog w = .ok (.string ⟨bs.toArray⟩) w := by
  have hl : bs.length = n := by have := h.1; simpa using this
  subst hl
  exact conv_any w B a bs c h
set_option maxRecDepth 100000 in
set_option maxHeartbeats 8000000 in
theorem labelOne_walk (A : Option Addr) (n c : Nat) (bs : List UInt8) (w : World) (hx : Reads w w.heap.size 1 A n (bs.map B8)) (hn : n ≤ 140737488351232) : Calls Try.prog 7 #[.slice A n c] w fun e w' => e = .returned (.bool true) ∧ Below w.heap.size w w' := by
  have HX := Lib.hid hx
  have HTW : Hid (∀ W, Below w.heap.size w W → Calls Try.prog 18 #[.slice A n c] W fun e w' => ∃ a d, e = .returned (.slice a n d) ∧ w'.ownsRow W.heap.size 5 1 (.slice a n d) n (bs.map B8) ∧ Below W.heap.size W w' ∧ n ≤ d) := Lib.hid fun W hW => by
    refine (twin_any A n c bs W _ (hx.below hW) hn).mono ?_
    rintro e w' ⟨v, he, ho, hb⟩
    obtain ⟨a, d, rfl, hle⟩ := own_shape ho
    exact ⟨a, d, he, ho, hb, hle⟩
  have HPA : Hid (∀ (V : World) (a : Option Addr) (d : Nat), V.ownsRow 0 5 1 (.slice a n d) n (bs.map B8) → n ≤ d → Calls Try.prog 17 #[.slice a n d] V fun e w' => e = .returned (.tuple #[labV (Lab.parse bs).1, .int .i64 (Lab.parse bs).2]) ∧ Below V.heap.size V w') := Lib.hid fun V a d ho hd => parse_any a n d bs V _ (Reads.of_own ho) (Nat.le_refl _) hd (fun h => own_head ho (by omega))
  by_cases hr : Lab.reads bs
  · have hp : Lab.parse bs = (Lab.of bs, 0) := if_pos hr
    obtain ⟨hb1, hm, hst⟩ := Lab.bytes_of hr
    have hn31 : n = 31 := by have h1 := hr.1; have h2 := hx.1; simp at h2; omega
    have hf := may_fits hm
    have hwf : (Lab.of bs).Wf := ⟨hst, by omega, by omega⟩
    rw [hp] at HPA
    have HEN : Hid (∀ W, Calls Try.prog 15 #[labV (Lab.of bs)] W fun e w' => ∃ a d, e = .returned (.tuple #[.slice a 31 d, .int .i64 0]) ∧ w'.ownsRow W.heap.size 5 1 (.slice a 31 d) 31 (bs.map B8) ∧ Below W.heap.size W w') := Lib.hid fun W => by
      refine (encode_ok (Lab.of bs) hwf hm W).mono ?_
      rintro e w' ⟨u, he, ho, hb⟩
      obtain ⟨a, d, rfl, _⟩ := own_shape ho
      rw [hb1] at ho
      exact ⟨a, d, he, ho, hb⟩
    have HF2 : Hid (∀ W, Calls Try.prog 19 #[labV (Lab.of bs)] W fun e w' => e = .returned (.bool true) ∧ Below W.heap.size W w') := Lib.hid fun W => by have h := fit_any (Lab.of bs) hwf W; rw [decide_eq_true hm] at h; exact h
    obtain ⟨a0, a1, a2, a3, a4, a5, a6, a7, n0, n1, n2, n3, n4, hv⟩ := agg_hid (Lab.of bs) hst
    simp only at HPA
    rw [hv] at HPA HEN HF2
    obtain ⟨s, hs⟩ : ∃ s : ByteArray, s = ⟨bs.toArray⟩ := ⟨_, rfl⟩
    have HSS := Lib.hid hs
    clear hx hn hr hp hb1 hm hst hf hwf hv hs
    subst hn31
    go_enter Try.func7, Try.ntmps7
    go_wp2_with (first
      | (go_at_call 13; refine (known_any _).mono ?_; rintro e w1 ⟨rfl, hb⟩; have HB1 := Lib.hid hb; have hs1 := hb.size; clear hb)
      | (go_at_call 18; refine (HTW.out w1 HB1.out).mono ?_; rintro e w2 ⟨a, d, rfl, ho, hb, hd⟩; have HO2 := Lib.hid (ownsRow_base_a ho (Nat.zero_le _)); have HB2 : Hid (Below w.heap.size w w2) := Lib.hid (HB1.out.trans (hb.mono hs1)); have hs2 := hb.size; clear ho hb)
      | (go_at_call 17; refine (HPA.out w2 a d HO2.out hd).mono ?_; rintro e w3 ⟨rfl, hb⟩; have HB3 : Hid (Below w.heap.size w w3) := Lib.hid (HB2.out.trans (hb.mono HB2.out.size)); clear hb)
      | (go_at_call 15; refine (HEN.out _).mono ?_; rintro e w4 ⟨a', d', rfl, ho, hb⟩; have K4 := Lib.hid ((Blk.new w3 _ _).below hb (by rw [alloc_size]; omega)); have HB4 : Hid (Below w.heap.size w w4) := Lib.hid ((HB3.out.alloc HB3.out.size _).trans (hb.mono (by rw [alloc_size]; have := HB3.out.size; omega))); have hva := conv_at w4 _ a' bs 31 d' (Reads.of_own ho); have hvb := conv_at w4 _ A bs 31 c (HX.out.below HB4.out); rw [← HSS.out] at hva hvb; have w4y0 : w4.cell? ⟨w3.heap.size, 0, none⟩ = some (.int .u8 (a0.toNat : Int)) := K4.out.cell 0; have w4y1 : w4.cell? ⟨w3.heap.size, 1, none⟩ = some (.int .u8 (a1.toNat : Int)) := K4.out.cell 1; have w4y2 : w4.cell? ⟨w3.heap.size, 2, none⟩ = some (.int .u8 (a2.toNat : Int)) := K4.out.cell 2; have w4y3 : w4.cell? ⟨w3.heap.size, 3, none⟩ = some (.int .u8 (a3.toNat : Int)) := K4.out.cell 3; have w4y4 : w4.cell? ⟨w3.heap.size, 4, none⟩ = some (.int .u8 (a4.toNat : Int)) := K4.out.cell 4; have w4y5 : w4.cell? ⟨w3.heap.size, 5, none⟩ = some (.int .u8 (a5.toNat : Int)) := K4.out.cell 5; have w4y6 : w4.cell? ⟨w3.heap.size, 6, none⟩ = some (.int .u8 (a6.toNat : Int)) := K4.out.cell 6; have w4y7 : w4.cell? ⟨w3.heap.size, 7, none⟩ = some (.int .u8 (a7.toNat : Int)) := K4.out.cell 7; have w4y8 : w4.cell? ⟨w3.heap.size, 8, none⟩ = some (.int .i64 n0) := K4.out.cell 8; have w4y9 : w4.cell? ⟨w3.heap.size, 9, none⟩ = some (.int .i64 n1) := K4.out.cell 9; have w4y10 : w4.cell? ⟨w3.heap.size, 10, none⟩ = some (.int .i64 n2) := K4.out.cell 10; have w4y11 : w4.cell? ⟨w3.heap.size, 11, none⟩ = some (.int .i64 n3) := K4.out.cell 11; have w4y12 : w4.cell? ⟨w3.heap.size, 12, none⟩ = some (.int .i64 n4) := K4.out.cell 12; clear ho hb)
      | (go_at_call 19; refine (HF2.out _).mono ?_; rintro e w5 ⟨rfl, hb⟩; have HB5 := Lib.hid (HB4.out.trans (hb.mono HB4.out.size)); clear hb))
    go_ret
    exact ⟨rfl, HB5.out⟩
  · rw [Lab.parse_bad hr] at HPA
    have hez : ∀ W, (binOp .eql 26 (.agg #[.int .u8 0, .int .u8 0, .int .u8 0, .int .u8 0, .int .u8 0, .int .u8 0, .int .u8 0, .int .u8 0, .int .i64 0, .int .i64 0, .int .i64 0, .int .i64 0, .int .i64 0]) (.agg #[.int .u8 0, .int .u8 0, .int .u8 0, .int .u8 0, .int .u8 0, .int .u8 0, .int .u8 0, .int .u8 0, .int .i64 0, .int .i64 0, .int .i64 0, .int .i64 0, .int .i64 0])).run Try.prog W = .ok (.bool true) W := lab_eql Lab.zero rfl
    have HPZ : Hid (∀ (V : World) (a : Option Addr) (d : Nat), V.ownsRow 0 5 1 (.slice a n d) n (bs.map B8) → n ≤ d → Calls Try.prog 17 #[.slice a n d] V fun e w' => e = .returned (.tuple #[.agg #[.int .u8 0, .int .u8 0, .int .u8 0, .int .u8 0, .int .u8 0, .int .u8 0, .int .u8 0, .int .u8 0, .int .i64 0, .int .i64 0, .int .i64 0, .int .i64 0, .int .i64 0], .int .i64 150]) ∧ Below V.heap.size V w') := Lib.hid HPA.out
    clear hx hn hr HPA
    go_enter Try.func7, Try.ntmps7
    go_wp2_with (first
      | (go_at_call 13; refine (known_any _).mono ?_; rintro e w1 ⟨rfl, hb⟩; have HB1 := Lib.hid hb; have hs1 := hb.size; clear hb)
      | (go_at_call 18; refine (HTW.out w1 HB1.out).mono ?_; rintro e w2 ⟨a, d, rfl, ho, hb, hd⟩; have HO2 := Lib.hid (ownsRow_base_a ho (Nat.zero_le _)); have HB2 : Hid (Below w.heap.size w w2) := Lib.hid (HB1.out.trans (hb.mono hs1)); have hs2 := hb.size; clear ho hb)
      | (go_at_call 17; refine (HPZ.out w2 a d HO2.out hd).mono ?_; rintro e w3 ⟨rfl, hb⟩; have HB3 : Hid (Below w.heap.size w w3) := Lib.hid (HB2.out.trans (hb.mono HB2.out.size)); clear hb))
    go_ret
    exact ⟨rfl, HB3.out.alloc HB3.out.size _⟩
end Go.Proofs.Ytdiaihpilniikaa

/- The walk of FanCounts. -/
import Derived.Test.YtijfkcbhojjgnaaFc5
import Derived.Deep.DeepMust
namespace Go.Proofs.Ytijfkcbhojjgnaa.fanCounts
open Go.RowKit

theorem str_info : (Try.prog.info? 9).map (fun i => (i.zero, i.size, i.bytes)) = some (some (.string ⟨#[]⟩), 1, 16) := by kernel_rfl
theorem word_info : (Try.prog.info? 28).map (fun i => (i.zero, i.size, i.bytes)) = some (some (.agg #[.int .i64 0, .string ⟨#[]⟩]), 2, 24) := by kernel_rfl

/-- A byte of a number, as the text of one byte is made of it. -/
def byt (z : Int) : Int := z % 256
theorem isByte_byt (z : Int) : isByte (byt z) := by unfold isByte byt; omega

theorem conv_one (W : World) (v : Int) :
    (convert 26 9 (.slice (some ⟨W.heap.size, 0, none⟩) 1 1)).run Try.prog (W.alloc (.cells #[.int .u8 v] 5)) = .ok (.string (one v)) (W.alloc (.cells #[.int .u8 v] 5)) := by
  rw [run_convert_bytes_arg (P := Try.prog) (W.alloc (.cells #[.int .u8 v] 5)) 26 5 Try.underlying26 Try.underlying5 W.heap.size 0 1 1 [v] rfl (fun i hi => by
    have : i = 0 := by omega
    subst this
    rw [Nat.zero_add, World.cell?_alloc_new]; rfl) 9 Try.underlying9]
  rfl

theorem conv_one_drew (W : World) (v : Int) (n : Nat) :
    (convert 26 9 (.slice (some ⟨W.heap.size, 0, none⟩) 1 1)).run Try.prog ((W.drewN n).alloc (.cells #[.int .u8 v] 5)) = .ok (.string (one v)) ((W.drewN n).alloc (.cells #[.int .u8 v] 5)) :=
  conv_one (W.drewN n) v

/-- A block that is known whole, as an append's source. -/
theorem reads_blk {w : World} {g B size n : Nat} {t : TypeId} {vs : List Value} (h : Blk w g t vs.toArray) (hB : g < B) (hl : vs.length = n * size) : Reads w B size (some ⟨g, 0, none⟩) n vs := by
  refine ⟨hl, fun hn => ⟨_, rfl, hB, fun j u hu => ?_⟩⟩
  rw [add_plain, Nat.zero_add, h.cell]
  simpa using hu
/-- The block that was made last. -/
theorem blk_last (w : World) (g : Nat) (t : TypeId) (cs : Array Value) (h : g = w.heap.size) : Blk (w.alloc (.cells cs t)) g t cs := by subst h; exact Blk.new w t cs

/-- Rows of unlike elements lie in unlike blocks. -/
theorem own_ne {w : World} {b1 b2 : Nat} {e1 e2 : TypeId} {s1 s2 n1 n2 : Nat} {v1 v2 : Value} {x1 x2 : List Value} (h1 : w.ownsRow b1 e1 s1 v1 n1 x1) (h2 : w.ownsRow b2 e2 s2 v2 n2 x2) (hne : e1 ≠ e2) : v1.ownBlock = none ∨ v1.ownBlock ≠ v2.ownBlock := by
  rcases h1.2 with ⟨rfl, _⟩ | ⟨g1, c1, cur1, rfl, _, hh1, _⟩
  · exact .inl rfl
  · refine .inr ?_
    rcases h2.2 with ⟨rfl, _⟩ | ⟨g2, c2, cur2, rfl, _, hh2, _⟩
    · simp [Value.ownBlock]
    · intro e
      simp [Value.ownBlock] at e
      subst e
      rw [hh1] at hh2
      injection hh2 with hh2
      injection hh2 with _ ht
      exact hne ht

def ws (zs : List Int) : List Value := zs.flatMap fun z => [EI z, .string tx]
theorem ws_snoc (zs : List Int) (z : Int) : ws (zs ++ [z]) = ws zs ++ [EI z, .string tx] := by simp [ws]

theorem ws_get : ∀ (zs : List Int) (i : Nat), i < zs.length → (ws zs)[i * 2]? = some (EI (zs.getD i 0)) ∧ (ws zs)[i * 2 + 1]? = some (.string tx)
  | [], i, h => by simp at h
  | z :: zs, 0, _ => by simp [ws]
  | z :: zs, i + 1, h => by
    have := ws_get zs i (by simpa using h)
    rw [show (i + 1) * 2 = i * 2 + 2 by omega]
    simpa [ws] using this

theorem words_own {w : World} {base : Nat} {a : Option Addr} {n c : Nat} {zs : List Int} (h : w.ownsRow base 28 2 (.slice a n c) n (ws zs)) (hl : zs.length = n) : IsWords w a n zs := by
  by_cases hn : n = 0
  · exact .inl ⟨hn, List.eq_nil_of_length_eq_zero (by omega)⟩
  · obtain ⟨g, cap, hv, _, hlt⟩ := h.form (by omega)
    have hA : a = some ⟨g, 0, none⟩ := by injection hv
    have hc : c = cap := by injection hv
    subst hA hc
    refine .inr ⟨g, 0, rfl, hl, fun i hi => ?_⟩
    have h12 := ws_get zs i (by omega)
    rw [Nat.zero_add, h.cellAt _ (by omega), h.cellAt _ (by omega)]
    exact h12

theorem texts_own {w : World} {base : Nat} {a : Option Addr} {n c : Nat} {zs : List Int} (h : w.ownsRow base 9 1 (.slice a n c) n (zs.map ES)) (hl : zs.length = n) : IsRow ES w a n zs := by
  by_cases hn : n = 0
  · exact .inl ⟨hn, List.eq_nil_of_length_eq_zero (by omega)⟩
  · obtain ⟨g, cap, hv, _, hlt⟩ := h.form (by omega)
    have hA : a = some ⟨g, 0, none⟩ := by injection hv
    have hc : c = cap := by injection hv
    subst hA hc
    refine .inr ⟨g, 0, rfl, hl, fun i hi => ?_⟩
    rw [Nat.zero_add, h.cellAt _ (by omega)]
    simp [List.getD, hl, hi]

theorem most_mem (l : List Int) (h : 0 < l.length) : most l ∈ l := by
  obtain ⟨i, m, hi, he, _⟩ := mto_spec l l.length (Nat.le_refl _) h
  unfold most; rw [he]; simp [List.getD, hi]

set_option maxRecDepth 100000 in
set_option maxHeartbeats 4000000 in
theorem walk_any (a : Option Addr) (len cap : Nat) (zs : List Int) (x : Int) (w : World) (hm : len ≤ 1048576) (h : IsRow EI w a len zs) :
    Calls Try.prog 6 #[.slice a len cap, .int .i64 x] w fun e w' => e = .returned (.bool true) ∧ Below w.heap.size w w' := by
  obtain ⟨i0, hi0, hz0, hz1, hz2⟩ := info_parts int_info
  obtain ⟨i9, hi9, hy0, hy1, hy2⟩ := info_parts str_info
  obtain ⟨i28, hi28, hx0, hx1, hx2⟩ := info_parts word_info
  have HR := Lib.hid h; clear h
  have hcv := conv_one
  go_enter Try.func6, Try.ntmps6
  go_wp2
  go_loopw [5, 6, 7] (fun tv wv s wr => ∃ k : Nat, k ≤ len ∧ s = .int .i64 k ∧ Below w.heap.size w wr ∧ wr.ownsRow w.heap.size 9 1 tv k (((zs.take k).map byt).map ES) ∧ wr.ownsRow w.heap.size 28 2 wv k (ws (zs.take k))) (fun _ _ s _ => len - (intOf s).toNat)
  case atStart => exact ⟨0, Nat.zero_le _, rfl, Below.refl _ _, World.ownsRow_nil _ _ _ _, World.ownsRow_nil _ _ _ _⟩
  case round =>
    obtain ⟨k, hk, rfl, hb, hT, hW⟩ := hrel
    have HB := Lib.hid hb; clear hb
    have HT := Lib.hid hT; clear hT
    have HW := Lib.hid hW; clear hW
    by_cases hlt : k < len
    · have hck : ∃ b off, a = some ⟨b, off, none⟩ ∧ b < w.heap.size ∧ wr.cell? ⟨b, off + k, none⟩ = some (.int .i64 (zs.getD k 0)) := by
        rcases HR.out with ⟨h, _⟩ | ⟨b, off, rfl, hz, hc⟩
        · omega
        · have := hc k hlt
          exact ⟨b, off, rfl, World.block_lt_of_cell? _ _ this, (HB.out.cell (World.block_lt_of_cell? _ _ this)).trans this⟩
      obtain ⟨b, off, rfl, hbl, hck⟩ := hck
      have hszb : w.heap.size ≤ wr.heap.size := HB.out.size
      go_wp2_with (first
        | (at_builtin
           refine wpList_append_any _ rfl (.tmp 26) (.tmp 34) 24 rfl w.heap.size 9 i9 _ 1 16 Try.underlying24 hi9 hy0 hy1 hy2 rfl (by omega) _ k _ rfl ((HT.out.alloc _).alloc _) (wr.heap.size + 2) (some ⟨wr.heap.size + 1, 0, none⟩) 1 1 [.string (one (zs[k]?.getD 0 % 256))] rfl (by exact reads_blk (t := 9) (blk_last _ _ _ _ (by simp)) (by omega) rfl) (by intro u hu; simp at hu; subst hu; rfl) (by simp only [maxLen]; omega) (by omega) (by simp; omega) ?_
           intro v1 w1 hT1 hg1 hat1
           have hb1 : Below w.heap.size w w1 := ((HB.out.alloc hszb _).alloc (by simp; omega) _).grown hg1 (by simp; omega) (fun g hg => by rcases (HT.out.lt g hg) with ⟨h, _⟩; exact h)
           have hW1 : w1.ownsRow w.heap.size 28 2 u6 k (ws (zs.take k)) := ((HW.out.alloc _).alloc _).kept hg1 (own_ne HW.out HT.out (by decide))
           have hk1 : w1.cell? ⟨b, off + k, none⟩ = some (.int .i64 (zs.getD k 0)) := by
             rw [hb1.cell (p := ⟨b, off + k, none⟩) hbl, ← HB.out.cell (p := ⟨b, off + k, none⟩) hbl]; exact hck
           have hsz1 : w.heap.size ≤ w1.heap.size := hb1.size
           have HT1 := Lib.hid hT1; clear hT1
           have HW1 := Lib.hid hW1; clear hW1
           have HB1 := Lib.hid hb1; clear hb1 hg1 hat1 hck)
        | (at_builtin
           refine wpList_append_any _ rfl (.tmp 36) (.tmp 42) 25 rfl w.heap.size 28 i28 _ 2 24 Try.underlying25 hi28 hx0 hx1 hx2 rfl (by omega) _ k _ rfl (HW1.out.alloc _) (w1.heap.size + 1) (some ⟨w1.heap.size, 0, none⟩) 1 1 [EI (zs[k]?.getD 0), .string tx] rfl (by exact reads_blk (t := 28) (blk_last _ _ _ _ (by simp)) (by omega) rfl) (by intro u hu; simp at hu; rcases hu with rfl | rfl <;> rfl) (by simp only [maxLen]; omega) (by omega) (by simp; omega) ?_
           intro v2 w2 hW2 hg2 hat2
           have hb2 : Below w.heap.size w w2 := (HB1.out.alloc hsz1 _).grown hg2 (by simp; omega) (fun g hg => by rcases (HW1.out.lt g hg) with ⟨h, _⟩; exact h)
           have hT2 : w2.ownsRow w.heap.size 9 1 v1 (k + 1) _ := (HT1.out.alloc _).kept hg2 (own_ne HT1.out HW1.out (by decide))
           have HT2 := Lib.hid hT2; clear hT2
           have HW2 := Lib.hid hW2; clear hW2
           have HB2 := Lib.hid hb2; clear hb2 hg2 hat2 hk1))
      have e1 : zs.take (k + 1) = zs.take k ++ [zs[k]?.getD 0] := take_snoc zs k (by rw [HR.out.length]; exact hlt)
      have hTf : w2.ownsRow w.heap.size 9 1 v1 (k + 1) (((zs.take (k + 1)).map byt).map ES) := by
        rw [e1]; simpa [byt, ES] using HT2.out
      have hWf : w2.ownsRow w.heap.size 28 2 v2 (k + 1) (ws (zs.take (k + 1))) := by
        rw [e1, ws_snoc]; exact HW2.out
      have HTF := Lib.hid hTf; clear hTf
      have HWF := Lib.hid hWf; clear hWf e1
      go_roundw
      case rel => exact ⟨k + 1, by omega, by go_num, HB2.out, HTF.out, HWF.out⟩
      case measure => simp [intOf]; omega
    · have hkl : k = len := by omega
      subst hkl
      have hszr : w.heap.size ≤ wr.heap.size := HB.out.size
      have HRr := Lib.hid (HR.out.below HB.out)
      go_wp2_with (first
        | (at_builtin
           refine wpList_append_any _ rfl (.const (.slice none 0 0)) (.tmp 44) _ rfl w.heap.size 3 i0 _ 1 8 Try.underlying23 hi0 hz0 hz1 hz2 rfl (by omega) (.slice none 0 0) 0 [] rfl ⟨by simp, .inl ⟨rfl, rfl⟩⟩ _ a k cap (zs.map EI) rfl (reads_row HRr.out) (ints_one zs) (by simp only [maxLen]; omega) (by omega) hszr ?_
           intro v3 w3 hown3 hg3 hat3
           obtain ⟨a3, c3, rfl, hnc3⟩ := own_shape hown3
           simp only [Nat.zero_add, List.nil_append] at hown3 hnc3
           rw [Nat.zero_add]
           have hb3 : Below w.heap.size w w3 := HB.out.grown hg3 hszr (by simp [Value.ownBlock])
           have HO3 : Hid (w3.ownsRow w.heap.size 3 1 (.slice a3 k c3) k (zs.map EI)) := hown3
           have HI3 : Hid (IsRow EI w3 a3 k zs) := row_own hown3 HR.out.length
           have HR3 : Hid (IsRow EI w3 a k zs) := HR.out.below hb3
           have hT3 := HT.out.kept hg3 (own_ne HT.out (World.ownsRow_nil wr 0 3 1) (by decide))
           have hW3 := HW.out.kept hg3 (own_ne HW.out (World.ownsRow_nil wr 0 3 1) (by decide))
           have HT3 := Lib.hid hT3
           have HW3 := Lib.hid hW3
           have HB3 := Lib.hid hb3
           clear hown3 hg3 hat3 hb3 hnc3 hT3 hW3))
      refine (rmost_any _ _ _ _ _ hm HI3.out).mono ?_
      rintro e w3' ⟨rfl, n3, rfl⟩
      have hsz3 : w.heap.size ≤ w3.heap.size := HB3.out.size
      go_wp2_with (first
        | (at_builtin
           refine wpList_append_any _ rfl (.const (.slice none 0 0)) (.tmp 51) _ rfl w3.heap.size 3 i0 _ 1 8 Try.underlying23 hi0 hz0 hz1 hz2 rfl (by omega) (.slice none 0 0) 0 [] rfl ⟨by simp, .inl ⟨rfl, rfl⟩⟩ _ a k cap (zs.map EI) rfl (reads_row (HR3.out.drewN n3)) (ints_one zs) (by simp only [maxLen]; omega) (by omega) (Nat.le_refl _) ?_
           intro v4 w4 hown4 hg4 hat4
           obtain ⟨a4, c4, rfl, hnc4⟩ := own_shape hown4
           simp only [Nat.zero_add, List.nil_append] at hown4 hnc4
           rw [Nat.zero_add]
           have hb4 : Below w3.heap.size w3 w4 := (below_drewN (Below.refl _ _) n3).grown hg4 (Nat.le_refl _) (by simp [Value.ownBlock])
           have hsz4 : w3.heap.size ≤ w4.heap.size := hb4.size
           have HO4 := Lib.hid hown4
           have HB4 := Lib.hid hb4
           clear hown4 hg4 hat4 hb4 hnc4)
        | (at_builtin
           refine wpList_append_any _ rfl (.tmp 52) (.tmp 53) _ rfl w3.heap.size 3 i0 _ 1 8 Try.underlying23 hi0 hz0 hz1 hz2 rfl (by omega) _ k _ rfl (HO4.out.alloc _) (w4.heap.size + 1) (some ⟨w4.heap.size, 0, none⟩) 1 1 [EI 77] rfl (by exact reads_blk (t := 3) (blk_last _ _ _ _ rfl) (by omega) rfl) (by intro u hu; simp at hu; subst hu; rfl) (by simp only [maxLen]; omega) (by omega) (by simp; omega) ?_
           intro v5 w5 hown5 hg5 hat5
           obtain ⟨g, c5, rfl, hg3, hglt⟩ := hown5.form (by omega)
           have hb5 : Below w3.heap.size w3 w5 := (HB4.out.alloc hsz4 _).grown hg5 (by simp; omega) (fun q hq => by rcases (HO4.out.lt q hq) with ⟨h, _⟩; exact h)
           have hkc : k + 1 ≤ c5 := by
             obtain ⟨a', c', he, hc'⟩ := own_shape hown5
             injection he with _ _ he; omega
           have HO5 := Lib.hid hown5
           have HB5 := Lib.hid hb5
           have hk5 : (k : Int) ≤ k + 1 := by omega
           clear hown5 hg5 hat5 hb5))
      have hc5 : ∀ j, j < k → w5.cell? ⟨g, 0 + j, none⟩ = some (EI (zs.getD j 0)) := by
        intro j hj
        rw [Nat.zero_add, HO5.out.cellAt j (by omega), List.getElem?_append_left (by simp [HR.out.length, hj])]
        simp [List.getD, HR.out.length, hj]
      have h775 : w5.cell? ⟨g, 0 + k, none⟩ = some (.int .i64 77) := by
        rw [Nat.zero_add, HO5.out.cellAt k (by omega), List.getElem?_append_right (by simp [HR.out.length])]
        simp [HR.out.length]
      have HF5 : Hid (∀ j, w5.frozen? ⟨g, j, none⟩ = false) := fun j => HO5.out.frozenAt j
      refine (asked_row g 0 k c5 zs x w5 hm HR.out.length (by omega) hc5 h775).mono ?_
      rintro e w6 ⟨rfl, hb6⟩
      have hr6 : IsRow EI w6 (some ⟨g, 0, none⟩) k zs := IsRow.below (.inr ⟨g, 0, rfl, HR.out.length, hc5⟩) hb6
      have hf6 : ∀ j, w6.frozen? ⟨g, j, none⟩ = false := fun j => by rw [hb6.frozen hglt]; exact HF5.out j
      have h776 : w6.cell? ⟨g, k, none⟩ = some (.int .i64 77) := by rw [hb6.cell hglt, ← Nat.zero_add k]; exact h775
      have HB6 := Lib.hid (HB5.out.trans (hb6.mono HB5.out.size))
      have HG6 := Lib.hid (Nat.lt_of_lt_of_le hglt hb6.size)
      have HR6 := Lib.hid hr6
      have HF6 := Lib.hid hf6
      have H776 := Lib.hid h776
      clear hc5 h775 hb6 hr6 hf6 h776
      go_wp2_with fail
      refine (again_any g k c5 zs x w6 hm (by omega) HR6.out HF6.out).mono ?_
      rintro e w7 ⟨rfl, hf7⟩
      have hc7 : ∀ j, j < k → w7.cell? ⟨g, 0 + j, none⟩ = some (EI ((List.replicate k (wrap64 (x + 1))).getD j 0)) := by
        intro j hj
        rw [Nat.zero_add, hf7.done j hj]; simp [List.getD, hj]
      have h777 : w7.cell? ⟨g, 0 + k, none⟩ = some (.int .i64 77) := by
        rw [Nat.zero_add, hf7.rest k (Nat.le_refl _)]; exact H776.out
      have HB7 := Lib.hid (HB6.out.grown hf7.grown HB6.out.size (fun q hq => by injection hq with hq; omega))
      have HC7 := Lib.hid hc7
      have H777 := Lib.hid h777
      clear hf7 hc7 h777
      go_wp2_with fail
      refine (asked_row g 0 k c5 _ x w7 hm (by simp) (by omega) HC7.out H777.out).mono ?_
      rintro e w8 ⟨rfl, hb8⟩
      have HB8 := Lib.hid (HB7.out.trans (hb8.mono HB7.out.size))
      clear hb8
      obtain ⟨at_, ct, rfl, _⟩ := own_shape HT3.out
      obtain ⟨aw, cw, rfl, _⟩ := own_shape HW3.out
      have hlen : (zs.take k) = zs := List.take_of_length_le (by rw [HR.out.length]; omega)
      have hwd3 : IsWords w3 aw k zs := words_own (by have := HW3.out; rwa [hlen] at this) HR.out.length
      have htx3 : IsRow ES w3 at_ k (zs.map byt) := texts_own (by have := HT3.out; rwa [hlen] at this) (by simp [HR.out.length])
      have hwd8 : IsWords w8 aw k zs := hwd3.below HB8.out (Nat.le_refl _)
      have HTX8 := Lib.hid (htx3.below HB8.out)
      have HI8 := Lib.hid (HI3.out.below HB8.out)
      have HWD8 := Lib.hid hwd8
      have htm := times_bd zs
      clear hlen hwd3 htx3 hwd8
      go_wp2_with fail
      refine (wmost_any _ _ _ _ _ hm HWD8.out).mono ?_
      rintro e w9 ⟨rfl, hb9⟩
      have hz9 : w8.heap.size ≤ w9.heap.size := hb9.size
      have HB9 := Lib.hid (HB8.out.trans (hb9.mono HB8.out.size))
      have HTX9 := Lib.hid (HTX8.out.below hb9)
      have HI9 := Lib.hid (HI8.out.below hb9)
      have HWD9 := Lib.hid (HWD8.out.below hb9 (Nat.le_refl _))
      clear hb9
      by_cases hk0 : k = 0
      · subst hk0
        have hzs : zs = [] := List.eq_nil_of_length_eq_zero HR.out.length
        subst hzs
        rw [show most [] = 0 from rfl, show times [] = 0 from rfl, show wtx 0 = (⟨#[]⟩ : ByteArray) from rfl]
        have hn0 : times [] = 0 := rfl
        have HN := Lib.hid hn0; clear hn0 htm
        have hm0 : most [] = 0 := rfl
        have HM0 := Lib.hid hm0; clear hm0
        have hs0 : stx [] 0 = (⟨#[]⟩ : ByteArray) := rfl
        have HS0 := Lib.hid hs0; clear hs0
        have hc0 : cnt [] x = 0 := rfl
        have HC0 := Lib.hid hc0; clear hc0
        go_wp2_with fail
        have hcx : ∀ (W : World), IsWords W aw 0 [] → Calls Try.prog 14 #[.slice aw 0 cw, .agg #[.int .i64 x, .string ⟨#[120]⟩]] W fun e w' => e = .returned (.int .i64 (cnt [] x)) ∧ Below W.heap.size W w' := fun W hW => wcount_any aw 0 cw [] x W hm hW
        have hbv := HB9.out.alloc HB9.out.size (Obj.cells #[Value.int IntKind.i64 0, Value.string ⟨#[]⟩] 28)
        have hbw := (Below.refl w9.heap.size w9).alloc (Nat.le_refl _) (Obj.cells #[Value.int IntKind.i64 0, Value.string ⟨#[]⟩] 28)
        refine (hcx _ (.inl ⟨rfl, rfl⟩)).mono ?_
        rintro e w10 ⟨rfl, hb10⟩
        have HB10 := Lib.hid (hbv.trans (hb10.mono (Nat.le_trans HB9.out.size (by simp))))
        clear hcx hbv hbw hb10
        rw [HC0.out]
        go_wp2_with (first
          | (go_at_call 15; refine (rcount_any _ _ _ [] _ _ hm (.inl ⟨rfl, rfl⟩)).mono ?_; rintro e w' ⟨rfl, rfl⟩; rw [HC0.out])
          | (go_at_call 16; refine (smost_any _ _ _ [] _ hm (by intro z hz; cases hz) (.inl ⟨rfl, rfl⟩)).mono ?_; rintro e w' ⟨rfl, rfl⟩; rw [HS0.out, HN.out]))
        refine wp_loop_rounds 1 ?_
        rw [rounds_succ]
        go_wp2_with (go_at_call 10; refine (rmost_any _ _ _ [] _ hm (.inl ⟨rfl, rfl⟩)).mono ?_; rintro e w12 ⟨rfl, n12, rfl⟩; rw [HN.out, HM0.out])
        go_ret
        exact ⟨rfl, HB3.out.trans ((below_drewN HB10.out n12).mono HB3.out.size)⟩
      · have hkp : ((0 : Int) < (k : Int)) := by omega
        have hkz : ((k : Int) == 0) = false := by simp; omega
        have hwt : wtx k = tx := by unfold wtx; rw [if_neg hk0]
        rw [hwt, show tx = (⟨#[120]⟩ : ByteArray) from rfl]
        clear hwt
        go_wp2_with fail
        have hcx : ∀ (W : World), IsWords W aw k zs → Calls Try.prog 14 #[.slice aw k cw, .agg #[.int .i64 x, .string ⟨#[120]⟩]] W fun e w' => e = .returned (.int .i64 (cnt zs x)) ∧ Below W.heap.size W w' := fun W hW => wcount_any aw k cw zs x W hm hW
        have hbv := HB9.out.alloc HB9.out.size (Obj.cells #[Value.int IntKind.i64 (most zs), Value.string ⟨#[120]⟩] 28)
        have hbw := (Below.refl w9.heap.size w9).alloc (Nat.le_refl _) (Obj.cells #[Value.int IntKind.i64 (most zs), Value.string ⟨#[120]⟩] 28)
        refine (hcx _ (HWD9.out.below hbw (Nat.le_refl _))).mono ?_
        rintro e w10 ⟨rfl, hb10⟩
        have hb10' : Below w9.heap.size w9 w10 := hbw.trans (hb10.mono (by simp))
        have HI10 := Lib.hid (HI9.out.below hb10')
        have HTX10 := Lib.hid (HTX9.out.below hb10')
        have HB10 := Lib.hid (hbv.trans (hb10.mono (Nat.le_trans HB9.out.size (by simp))))
        have hsz10 : w3.heap.size ≤ w10.heap.size := HB10.out.size
        clear hcx hbv hbw hb10 hb10'
        go_wp2_with (first
          | (go_at_call 15; refine (rcount_any _ _ _ _ _ _ hm HI10.out).mono ?_; rintro e w' ⟨rfl, rfl⟩)
          | (go_at_call 16; refine (smost_any _ _ _ _ _ hm (by intro z hz; obtain ⟨y, _, rfl⟩ := List.mem_map.1 hz; exact isByte_byt y) HTX10.out).mono ?_; rintro e w' ⟨rfl, rfl⟩))
        have hsz : zs.length = k := HR.out.length
        have hmem := most_mem (zs.map byt) (by simp; omega)
        have hmb : isByte (most (zs.map byt)) := by obtain ⟨y, _, e⟩ := List.mem_map.1 hmem; rw [← e]; exact isByte_byt y
        have hmo : most (zs.map byt) % 256 = most (zs.map byt) := by unfold isByte at hmb; omega
        have hst : ((stx (zs.map byt) k).toList == (one (most (zs.map byt) % 256)).toList) = true := by
          rw [hmo]; unfold stx most; rw [if_neg hk0, List.length_map, hsz]; simp
        clear hmem hmo
        have HSZ := Lib.hid hsz; clear hsz
        obtain ⟨b3, o3, rfl, hc3⟩ : ∃ b3 o3, a3 = some ⟨b3, o3, none⟩ ∧ ∀ j, j < k → w10.cell? ⟨b3, o3 + j, none⟩ = some (EI (zs.getD j 0)) := by
          rcases HI10.out with ⟨h, _⟩ | ⟨b3, o3, e, _, hc⟩
          · omega
          · exact ⟨b3, o3, e, hc⟩
        have HC3 := Lib.hid hc3; clear hc3
        go_loopw [16, 17] (fun bv s wq => ∃ j : Nat, j ≤ k ∧ s = .int .i64 j ∧ Below w10.heap.size w10 wq ∧ wq.ownsRow w10.heap.size 3 1 bv j (((zs.take j).map byt).map EI)) (fun _ s _ => k - (intOf s).toNat)
        case atStart => exact ⟨0, Nat.zero_le _, rfl, Below.refl _ _, World.ownsRow_nil _ _ _ _⟩
        case round =>
          obtain ⟨j, hj, rfl, hbq, hBq⟩ := hrel
          have HBQ := Lib.hid hbq; clear hbq
          have HOQ := Lib.hid hBq; clear hBq
          by_cases hlt : j < k
          · have hcj := (HBQ.out.cell (World.block_lt_of_cell? _ _ (HC3.out j hlt))).trans (HC3.out j hlt)
            have hszq : w10.heap.size ≤ wr.heap.size := HBQ.out.size
            go_wp2_with (at_builtin; refine wpList_append_any _ rfl (.tmp 124) (.tmp 131) _ rfl w10.heap.size 3 i0 _ 1 8 Try.underlying23 hi0 hz0 hz1 hz2 rfl (by omega) _ j _ rfl (HOQ.out.alloc _) (wr.heap.size + 1) (some ⟨wr.heap.size, 0, none⟩) 1 1 [EI (zs[j]?.getD 0 % 256)] rfl (by exact reads_blk (t := 3) (blk_last _ _ _ _ rfl) (by omega) rfl) (by intro u hu; simp at hu; subst hu; rfl) (by simp only [maxLen]; omega) (by omega) (by simp; omega) ?_; intro v11 w11 hown11 hg11 hat11)
            have hb11 := (HBQ.out.alloc hszq (Obj.cells #[EI (zs[j]?.getD 0 % 256)] 3)).grown hg11 (by simp; omega) (fun q hq => by rcases (HOQ.out.lt q hq) with ⟨h, _⟩; exact h)
            have e1 : zs.take (j + 1) = zs.take j ++ [zs[j]?.getD 0] := take_snoc zs j (by rw [HSZ.out]; exact hlt)
            have hown : w11.ownsRow w10.heap.size 3 1 v11 (j + 1) (((zs.take (j + 1)).map byt).map EI) := by
              rw [e1]; simpa [byt] using hown11
            have HB11 := Lib.hid hb11
            have HO11 := Lib.hid hown
            clear hown11 hg11 hat11 hb11 e1 hown
            go_wp2
            go_roundw
            case rel => exact ⟨j + 1, by omega, by go_num, HB11.out, HO11.out⟩
            case measure => simp [intOf]; omega
          · have hjk : j = k := by omega
            subst hjk
            obtain ⟨a11, c11, rfl, _⟩ := own_shape HOQ.out
            have hlen : (zs.take j) = zs := List.take_of_length_le (by rw [HSZ.out]; omega)
            have hrb : IsRow EI wr a11 j (zs.map byt) := row_own (by have := HOQ.out; rwa [hlen] at this) (by simp [HSZ.out])
            have HRB := Lib.hid hrb; clear hrb hlen
            have hcv2 := conv_one_drew
            go_wp2_with (go_at_call 10; refine (rmost_any _ _ _ _ _ hm HRB.out).mono ?_; rintro e w12 ⟨rfl, n12, rfl⟩)
            go_ret
            exact ⟨rfl, (HB3.out.trans ((HB10.out.trans (below_drewN (HBQ.out.mono HB10.out.size) n12)).mono HB3.out.size)).alloc (Nat.le_trans HB3.out.size (Nat.le_trans HB10.out.size HBQ.out.size)) _⟩
end Go.Proofs.Ytijfkcbhojjgnaa.fanCounts

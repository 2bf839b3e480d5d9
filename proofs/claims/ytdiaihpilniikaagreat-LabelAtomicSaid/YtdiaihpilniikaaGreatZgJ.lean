/- Two labels compared; the law's helper 'among': does a drive show one of these labels? -/
import Derived.Test.YtdiaihpilniikaaGreatM26
import Derived.Test.YtdiaihpilniikaaGreatZfJ
import Derived.Test.YtdiaihpilniikaaGreatLwJ
namespace Go.Proofs.YtdiaihpilniikaaGreat
open Go.RowKit Go.Maps
set_option maxRecDepth 100000 in
theorem lab_diff (l m : Lab) (hl : l.st.length = 8) (hm : m.st.length = 8) (hne : l ≠ m) (W : World) : (Op.equalIn 10000 27 (labV l) (labV m)).run Tryz.prog W = .ok false W := by
  obtain ⟨a0, a1, a2, a3, a4, a5, a6, a7, hst⟩ := lab_eight hl
  obtain ⟨b0, b1, b2, b3, b4, b5, b6, b7, hst2⟩ := lab_eight hm
  have e1 : labV l = .agg #[.int .u8 (a0.toNat : Int), .int .u8 (a1.toNat : Int), .int .u8 (a2.toNat : Int), .int .u8 (a3.toNat : Int), .int .u8 (a4.toNat : Int), .int .u8 (a5.toNat : Int), .int .u8 (a6.toNat : Int), .int .u8 (a7.toNat : Int), .int .i64 l.k, .int .i64 l.m, .int .i64 l.b, .int .i64 l.i, .int .i64 l.e] := by
    unfold labV labCells; rw [hst]; rfl
  have e2 : labV m = .agg #[.int .u8 (b0.toNat : Int), .int .u8 (b1.toNat : Int), .int .u8 (b2.toNat : Int), .int .u8 (b3.toNat : Int), .int .u8 (b4.toNat : Int), .int .u8 (b5.toNat : Int), .int .u8 (b6.toNat : Int), .int .u8 (b7.toNat : Int), .int .i64 m.k, .int .i64 m.m, .int .i64 m.b, .int .i64 m.i, .int .i64 m.e] := by
    unfold labV labCells; rw [hst2]; rfl
  rw [e1, e2]
  have hp : Tryz.prog.stoodInHeld 27 = false := by kernel_rfl
  have hp2 : Tryz.prog.stoodInHeld 25 = false := by kernel_rfl
  have ht : Tryz.prog.underlying 27 = some (.struct (Tryz.prog.fieldsOf 27)) := by simp [Program.fieldsOf, Tryz.underlying27]
  have ht2 : Tryz.prog.underlying 25 = some (.struct (Tryz.prog.fieldsOf 25)) := by simp [Program.fieldsOf, Tryz.underlying25]
  have g1 : ∀ W, (isAgg 23).run Tryz.prog W = .ok true W := fun W => by kernel_rfl
  have g2 : ∀ W, (isAgg 25).run Tryz.prog W = .ok true W := fun W => by kernel_rfl
  have g3 : ∀ W, (isAgg 3).run Tryz.prog W = .ok false W := fun W => by kernel_rfl
  have z1 : ∀ W, (sizeOf 23).run Tryz.prog W = .ok 8 W := fun W => by kernel_rfl
  have z2 : ∀ W, (sizeOf 25).run Tryz.prog W = .ok 3 W := fun W => by kernel_rfl
  obtain ⟨c1, hc1⟩ : ∃ c, c = (l.st == m.st) := ⟨_, rfl⟩
  obtain ⟨c2, hc2⟩ : ∃ c, c = (l.k == m.k) := ⟨_, rfl⟩
  obtain ⟨c3, hc3⟩ : ∃ c, c = (l.m == m.m) := ⟨_, rfl⟩
  obtain ⟨c4, hc4⟩ : ∃ c, c = (l.b == m.b) := ⟨_, rfl⟩
  obtain ⟨c5, hc5⟩ : ∃ c, c = (l.i == m.i) := ⟨_, rfl⟩
  obtain ⟨c6, hc6⟩ : ∃ c, c = (l.e == m.e) := ⟨_, rfl⟩
  have hb : (Op.equalIn 9999 23 (.agg #[.int .u8 (a0.toNat : Int), .int .u8 (a1.toNat : Int), .int .u8 (a2.toNat : Int), .int .u8 (a3.toNat : Int), .int .u8 (a4.toNat : Int), .int .u8 (a5.toNat : Int), .int .u8 (a6.toNat : Int), .int .u8 (a7.toNat : Int)]) (.agg #[.int .u8 (b0.toNat : Int), .int .u8 (b1.toNat : Int), .int .u8 (b2.toNat : Int), .int .u8 (b3.toNat : Int), .int .u8 (b4.toNat : Int), .int .u8 (b5.toNat : Int), .int .u8 (b6.toNat : Int), .int .u8 (b7.toNat : Int)])).run Tryz.prog W = .ok c1 W := by
    have := run_equalIn_bytes (P := Tryz.prog) W 9997 23 5 8 Tryz.underlying23 Tryz.underlying5 (fun w => by kernel_rfl) [a0, a1, a2, a3, a4, a5, a6, a7] [b0, b1, b2, b3, b4, b5, b6, b7] rfl rfl
    rw [← hst, ← hst2, ← hc1] at this
    rw [hst, hst2] at this
    exact this
  have k1 : (Op.equalIn 9998 3 (.int .i64 l.k) (.int .i64 m.k)).run Tryz.prog W = .ok c2 W := by rw [hc2]; exact run_equalIn_int W 9997 3 .i64 .i64 _ _ Tryz.underlying3
  have k2 : (Op.equalIn 9998 3 (.int .i64 l.m) (.int .i64 m.m)).run Tryz.prog W = .ok c3 W := by rw [hc3]; exact run_equalIn_int W 9997 3 .i64 .i64 _ _ Tryz.underlying3
  have k3 : (Op.equalIn 9998 3 (.int .i64 l.b) (.int .i64 m.b)).run Tryz.prog W = .ok c4 W := by rw [hc4]; exact run_equalIn_int W 9997 3 .i64 .i64 _ _ Tryz.underlying3
  have hs : (Op.equalIn 9999 25 (.agg #[.int .i64 l.k, .int .i64 l.m, .int .i64 l.b]) (.agg #[.int .i64 m.k, .int .i64 m.m, .int .i64 m.b])).run Tryz.prog W = .ok (c2 && c3 && c4) W := by
    rw [run_equalIn_agg W 9998 25 _ _ ht2 hp2]
    clear hc1 hc2 hc3 hc4 hc5 hc6
    cases c2 <;> cases c3 <;> cases c4 <;> simp [Program.fieldsOf, Tryz.underlying25, Op.eqFields, part, g3, k1, k2, k3]
  have hi : (Op.equalIn 9999 3 (.int .i64 l.i) (.int .i64 m.i)).run Tryz.prog W = .ok c5 W := by rw [hc5]; exact run_equalIn_int W 9998 3 .i64 .i64 _ _ Tryz.underlying3
  have he : (Op.equalIn 9999 3 (.int .i64 l.e) (.int .i64 m.e)).run Tryz.prog W = .ok c6 W := by rw [hc6]; exact run_equalIn_int W 9998 3 .i64 .i64 _ _ Tryz.underlying3
  have hall : (c1 && (c2 && c3 && c4) && c5 && c6) = false := by
    cases hh : (c1 && (c2 && c3 && c4) && c5 && c6) with
    | false => rfl
    | true =>
      exfalso
      simp only [Bool.and_eq_true] at hh
      obtain ⟨⟨⟨h1, ⟨h2, h3⟩, h4⟩, h5⟩, h6⟩ := hh
      rw [hc1] at h1; rw [hc2] at h2; rw [hc3] at h3; rw [hc4] at h4; rw [hc5] at h5; rw [hc6] at h6
      refine hne ?_
      obtain ⟨x1, x2, x3, x4, x5, x6⟩ := l
      obtain ⟨y1, y2, y3, y4, y5, y6⟩ := m
      simp only [beq_iff_eq] at h1 h2 h3 h4 h5 h6
      subst h1 h2 h3 h4 h5 h6
      rfl
  rw [run_equalIn_agg W 9999 27 _ _ ht hp]
  obtain ⟨c7, hc7⟩ : ∃ c, c = (c2 && c3 && c4) := ⟨_, rfl⟩
  rw [← hc7] at hs hall
  clear hc1 hc2 hc3 hc4 hc5 hc6 hc7 k1 k2 k3
  cases c1 <;> cases c7 <;> cases c5 <;> cases c6 <;> first | (cases hall; done) | simp [Program.fieldsOf, Tryz.underlying27, Op.eqFields, part, g1, g2, g3, z1, z2, hb, hs, hi, he]
theorem lab_eqn (l m : Lab) (hl : l.st.length = 8) (hm : m.st.length = 8) (hne : l ≠ m) (W : World) : (binOp .eql 27 (labV l) (labV m)).run Tryz.prog W = .ok (.bool false) W := by
  have h := lab_diff l m hl hm hne W
  unfold labV at h ⊢
  rw [run_eql_struct, h]; rfl
theorem lab_grd (x y : Operand) (l m : Lab) (W : World) : (eqGuard .eql 27 x y (labV l) (labV m)).run Tryz.prog W = .ok () W := run_eqGuard_agg (P := Tryz.prog) W .eql 27 x y _ _ (by kernel_rfl)

/-- A label's value out of a row of labels. -/
def labRow (labs : List Lab) : List Value := labs.flatMap fun l => (labCells l).toList
theorem labRow_at {labs : List Lab} (h8 : ∀ l ∈ labs, l.st.length = 8) : ∀ {k : Nat} {l : Lab}, labs[k]? = some l → ∀ j v, (labCells l).toList[j]? = some v → (labRow labs)[k * 13 + j]? = some v := by
  induction labs with
  | nil => intro k l h; simp at h
  | cons x r ih =>
    intro k l h j v hv
    have hx : (labCells x).toList.length = 13 := by rw [Array.length_toList]; exact labCells_size x (h8 x List.mem_cons_self)
    have e : labRow (x :: r) = (labCells x).toList ++ labRow r := rfl
    rw [e]
    cases k with
    | zero =>
      simp at h; subst h
      obtain ⟨hj, _⟩ := List.getElem?_eq_some_iff.1 hv
      rw [List.getElem?_append_left (by omega)]
      rw [← hv]; congr 1; omega
    | succ k =>
      rw [List.getElem?_append_right (by omega), hx, show (k + 1) * 13 + j - 13 = k * 13 + j by omega]
      exact ih (fun l hl => h8 l (List.mem_cons_of_mem _ hl)) (by simpa using h) j v hv
theorem labRow_length {labs : List Lab} (h8 : ∀ l ∈ labs, l.st.length = 8) : (labRow labs).length = labs.length * 13 := by
  induction labs with
  | nil => rfl
  | cons x r ih =>
    have e : labRow (x :: r) = (labCells x).toList ++ labRow r := rfl
    rw [e, List.length_append, ih (fun l hl => h8 l (List.mem_cons_of_mem _ hl)), Array.length_toList, labCells_size x (h8 x List.mem_cons_self), List.length_cons]
    omega
theorem load_lab_at {w : World} {B n : Nat} {ad : Addr} {labs : List Lab} (h8 : ∀ l ∈ labs, l.st.length = 8) (hr : Reads w B 13 (some ad) n (labRow labs)) (hn : 0 < n) {k : Nat} {l : Lab} (hl : labs[k]? = some l) : (loadVar 27 (ad.add (k * 13))).run Tryz.prog w = .ok (labV l) w := by
  obtain ⟨ad', e, _, hc⟩ := hr.2 hn
  have e' := Option.some.inj e
  subst e'
  have h8l := h8 l (List.mem_of_getElem? hl)
  exact run_loadVar_cells 27 (ad.add (k * 13)) Tryz.underlying27 labSize (labCells l) (labCells_size l h8l) fun j v hv => by
    rw [add_of_add]; exact hc _ v (labRow_at h8 hl j v hv)

theorem Reads.touch1 {w w' : World} {B size n : Nat} {ad : Addr} {xs : List Value} {F : Nat → Prop} (h : Reads w B size (some ad) n xs) (ht : Touch F w w') (hB : B ≤ w.heap.size) (hn : ¬F ad.block) : Reads w' B size (some ad) n xs :=
  ⟨h.1, fun h0 => by
    obtain ⟨ad', e, hb, hc⟩ := h.2 h0
    have e' := Option.some.inj e
    subst e'
    exact ⟨ad, rfl, hb, fun j u hu => (World.cell?_of_block (ht.block _ (by rw [block_of_add]; omega) (by rw [block_of_add]; exact hn))).trans (hc j u hu)⟩⟩
set_option maxRecDepth 100000 in
set_option maxHeartbeats 8000000 in
theorem among_none (q p : Nat) (X X' : Wnd) (S : Drv) (F : Nat → Prop) (bs : List UInt8) (A : Option Addr) (n c : Nat) (w : World) (hd : WD w q p X S F) (hF : ∀ k, F k → k < w.heap.size) (hX : X.Ok) (hS : S.Small) (hr : wread X (S.read [108]) = (X', bs, 110)) (hbs : bs.length ≤ 2147483648) :
    Calls Tryz.prog 24 #[.pointer (some ⟨q, 0, none⟩), .slice A n c, .bool true] w fun e w' => e = .returned (.bool true) ∧ WD w' q p X' S F ∧ Touch F w w' := by
  have hc := lreadw_any q p X X' S F bs 110 w hd hF hX hS hr hbs
  rw [if_neg (by decide), if_neg (by decide)] at hc
  obtain ⟨lv, hlv⟩ : ∃ lv, lv = labV Lab.zero := ⟨_, rfl⟩
  rw [← hlv] at hc
  have HC := Lib.hid hc
  have HLV := Lib.hid hlv
  have HF := Lib.hid hF
  clear hd hF hX hS hr hbs hc hlv
  go_enter Tryz.func24, Tryz.ntmps24
  go_wp2_with fail
  refine HC.out.mono ?_
  rintro e w1 ⟨rfl, hwd, ht⟩
  have HWD := Lib.hid hwd
  have HT := Lib.hid ht
  obtain ⟨Y, hrun, hblk, hty, hsy⟩ := store_lab Lab.zero rfl (Blk.new w1 27 #[.int .u8 0, .int .u8 0, .int .u8 0, .int .u8 0, .int .u8 0, .int .u8 0, .int .u8 0, .int .u8 0, .int .i64 0, .int .i64 0, .int .i64 0, .int .i64 0, .int .i64 0]) rfl
  rw [← HLV.out] at hrun
  have HRUN := Lib.hid hrun
  have HBY : Hid (Below w1.heap.size w1 Y) := Lib.hid (((Below.refl _ w1).alloc (Nat.le_refl _) _).trans (hty.below (by rw [alloc_size]; omega) fun k hk => by omega))
  clear hwd ht hrun hblk hty hsy
  go_wp2_with ((with_reducible refine wpList_store_at rfl 27 (.tmp 7) (.tmp 14) rfl ⟨w1.heap.size, 0, none⟩ ?_ lv ?_ Y ?_ ?_); rfl; rfl; exact HRUN.out)
  go_ret
  exact ⟨rfl, WD.below HWD.out HBY.out, HT.out.trans (Touch.of_below HBY.out)⟩

set_option maxRecDepth 100000 in
set_option maxHeartbeats 16000000 in
theorem among_some (q p : Nat) (X X' : Wnd) (S : Drv) (F : Nat → Prop) (bs : List UInt8) (g n c : Nat) (labs : List Lab) (lw : Lab) (idx : Nat) (nn : Bool) (w : World) (hd : WD w q p X S F) (hF : ∀ k, F k → k < w.heap.size) (hX : X.Ok) (hS : S.Small) (hr : wread X (S.read [108]) = (X', bs, 0)) (hbs : bs.length ≤ 2147483648)
    (hp : Lab.parse bs = (lw, 0)) (h8 : ∀ l ∈ labs, l.st.length = 8) (hn : labs.length = n) (hrow : Reads w w.heap.size 13 (some ⟨g, 0, none⟩) n (labRow labs)) (hgF : ¬F g) (hn2 : n ≤ 9223372036854) (hi : labs[idx]? = some lw) (hmin : ∀ k l, k < idx → labs[k]? = some l → l ≠ lw) :
    Calls Tryz.prog 24 #[.pointer (some ⟨q, 0, none⟩), .slice (some ⟨g, 0, none⟩) n c, .bool nn] w fun e w' => e = .returned (.bool true) ∧ WD w' q p X' S F ∧ Touch F w w' := by
  have hc := lreadw_any q p X X' S F bs 0 w hd hF hX hS hr hbs
  rw [if_pos rfl, if_pos rfl, hp] at hc
  have h8w : lw.st.length = 8 := h8 lw (List.mem_of_getElem? hi)
  have H8 := Lib.hid h8
  have H8W := Lib.hid h8w
  have hin : idx < n := by
    rcases Nat.lt_or_ge idx labs.length with h | h
    · omega
    · rw [List.getElem?_eq_none h] at hi; cases hi
  have hgl : g < w.heap.size := by
    obtain ⟨ad, e, hb, _⟩ := hrow.2 (by omega)
    have e' := Option.some.inj e
    subst e'
    exact hb
  obtain ⟨lv, hlv⟩ : ∃ lv, lv = labV lw := ⟨_, rfl⟩
  have hc2 : Calls Tryz.prog 13 #[.iface 33 (.pointer (some ⟨q, 0, none⟩))] w fun e w' => e = .returned (.tuple #[lv, .int .i64 0]) ∧ WD w' q p X' S F ∧ Touch F w w' := by rw [hlv]; exact hc
  have HC := Lib.hid hc2
  have HLV := Lib.hid hlv
  have HROW := Lib.hid hrow
  have HGF := Lib.hid hgF
  have HI := Lib.hid hi
  have HMIN := Lib.hid hmin
  have HLN : Hid (∀ k, k < n → ∃ l, labs[k]? = some l) := Lib.hid fun k hk => ⟨labs[k]'(by omega), List.getElem?_eq_getElem (by omega)⟩
  clear hd hF hX hS hr hbs hc hlv hp h8 h8w hc2 hrow hgF hi hmin hn
  go_enter Tryz.func24, Tryz.ntmps24
  go_wp2_with fail
  refine HC.out.mono ?_
  rintro e w1 ⟨rfl, hwd, ht⟩
  have HWD := Lib.hid hwd
  have HT := Lib.hid ht
  have hz1 := ht.size
  obtain ⟨Y, hrun, hblk, hty, hsy⟩ := store_lab lw H8W.out (Blk.new w1 27 #[.int .u8 0, .int .u8 0, .int .u8 0, .int .u8 0, .int .u8 0, .int .u8 0, .int .u8 0, .int .u8 0, .int .i64 0, .int .i64 0, .int .i64 0, .int .i64 0, .int .i64 0]) rfl
  rw [← HLV.out] at hrun
  have HRUN := Lib.hid hrun
  have hby : Below w1.heap.size w1 Y := ((Below.refl _ w1).alloc (Nat.le_refl _) _).trans (hty.below (by rw [alloc_size]; omega) fun k hk => by omega)
  have HBY := Lib.hid hby
  have HKY := Lib.hid hblk
  have HRY : Hid (Reads Y w.heap.size 13 (some ⟨g, 0, none⟩) n (labRow labs)) := Lib.hid ((HROW.out.touch1 HT.out (Nat.le_refl _) HGF.out).below (hby.mono hz1))
  clear hwd ht hrun hblk hty hsy hby
  go_wp2_with ((with_reducible refine wpList_store_at rfl 27 (.tmp 7) (.tmp 14) rfl ⟨w1.heap.size, 0, none⟩ ?_ lv ?_ Y ?_ ?_); rfl; rfl; exact HRUN.out)
  go_loopw [9] (fun s wr => ∃ k : Nat, k ≤ idx ∧ s = .int .i64 k ∧ ∃ m, wr = Y.drewN m) (fun s _ => n - (intOf s).toNat)
  case atStart => exact ⟨0, Nat.zero_le _, rfl, 0, rfl⟩
  case round =>
    obtain ⟨k, hk, rfl, m, hm⟩ := hrel
    have HM := Lib.hid hm
    have hkn : k < n := by omega
    obtain ⟨lk, hlk⟩ := HLN.out k hkn
    have h8k := H8.out lk (List.mem_of_getElem? hlk)
    obtain ⟨vk, hvk⟩ : ∃ vk, vk = labV lk := ⟨_, rfl⟩
    have hl1 : ∀ j, (loadVar 27 ⟨g, k * 13, none⟩).run Tryz.prog (wr.drewN j) = .ok vk (wr.drewN j) := fun j => by
      rw [hvk, hm, World.drewN_drewN]
      have := load_lab_at H8.out (HRY.out.drewN (m + j)) (by omega) hlk
      rw [add_plain, Nat.zero_add] at this
      exact this
    have hl2 : ∀ j, (loadVar 27 ⟨w1.heap.size, 0, none⟩).run Tryz.prog (wr.drewN j) = .ok lv (wr.drewN j) := fun j => by
      rw [HLV.out, hm, World.drewN_drewN]
      exact load_lab lw H8W.out (HKY.out.drewN (m + j))
    have hgd : ∀ W x y, (eqGuard .eql 27 x y vk lv).run Tryz.prog W = .ok () W := fun W x y => by rw [hvk, HLV.out]; exact lab_grd x y lk lw W
    have HL1 := Lib.hid hl1
    have HL2 := Lib.hid hl2
    have HGD := Lib.hid hgd
    clear hl1 hl2 hgd
    by_cases hke : k = idx
    · have heq : ∀ W, (binOp .eql 27 vk lv).run Tryz.prog W = .ok (.bool true) W := fun W => by
        have e : lk = lw := by
          have h2 := HI.out
          rw [← hke, hlk] at h2
          exact Option.some.inj h2
        rw [hvk, HLV.out, e]; exact lab_eql lw H8W.out W
      have HEQ := Lib.hid heq
      clear hm hlk h8k hvk heq hke
      go_wp2
      refine wp_region_quiet_lit (by kernel_rfl) (by kernel_rfl) ?_
      repeat (first
        | ((with_reducible refine wpQuiet_load 27 (.tmp 30) rfl ?_ ⟨g, k * 13, none⟩ ?_ vk ?_ ?_); rfl; rfl; (rintro _ ⟨j, rfl⟩; exact HL1.out j); intro K hK; go_simp; go_big_quiet_on)
        | ((with_reducible refine wpQuiet_load 27 (.tmp 7) rfl ?_ ⟨w1.heap.size, 0, none⟩ ?_ lv ?_ ?_); rfl; rfl; (rintro _ ⟨j, rfl⟩; exact HL2.out j); intro K hK; go_simp; go_big_quiet_on)
        | ((with_reducible refine wpQuiet_binOp .eql 27 27 (.tmp 31) (.tmp 32) rfl ?_ vk lv ?_ ?_ (.bool true) ?_ ?_ ?_); rfl; rfl; rfl; (intro W _; exact HGD.out W _ _); (intro W _; exact HEQ.out W); intro K hK; go_simp; go_big_quiet_on)
        | go_big_quiet_step (fail))
      refine wpQuiet_nil ?_
      intro _ hw'
      obtain ⟨nq, hw''⟩ := hw'
      subst hw''
      go_wp2
      go_ret
      exact ⟨rfl, WD.below HWD.out (by rw [HM.out]; exact below_drewN (below_drewN HBY.out m) nq), HT.out.trans (Touch.of_below (by rw [HM.out]; exact below_drewN (below_drewN HBY.out m) nq))⟩
    · have heq : ∀ W, (binOp .eql 27 vk lv).run Tryz.prog W = .ok (.bool false) W := fun W => by
        rw [hvk, HLV.out]; exact lab_eqn lk lw h8k H8W.out (HMIN.out k lk (by omega) hlk) W
      have HEQ := Lib.hid heq
      have hki : k < idx := by omega
      clear hm hlk h8k hvk heq hke
      go_wp2
      refine wp_region_quiet_lit (by kernel_rfl) (by kernel_rfl) ?_
      repeat (first
        | ((with_reducible refine wpQuiet_load 27 (.tmp 30) rfl ?_ ⟨g, k * 13, none⟩ ?_ vk ?_ ?_); rfl; rfl; (rintro _ ⟨j, rfl⟩; exact HL1.out j); intro K hK; go_simp; go_big_quiet_on)
        | ((with_reducible refine wpQuiet_load 27 (.tmp 7) rfl ?_ ⟨w1.heap.size, 0, none⟩ ?_ lv ?_ ?_); rfl; rfl; (rintro _ ⟨j, rfl⟩; exact HL2.out j); intro K hK; go_simp; go_big_quiet_on)
        | ((with_reducible refine wpQuiet_binOp .eql 27 27 (.tmp 31) (.tmp 32) rfl ?_ vk lv ?_ ?_ (.bool false) ?_ ?_ ?_); rfl; rfl; rfl; (intro W _; exact HGD.out W _ _); (intro W _; exact HEQ.out W); intro K hK; go_simp; go_big_quiet_on)
        | go_big_quiet_step (fail))
      refine wpQuiet_nil ?_
      intro _ hw'
      obtain ⟨nq, hw''⟩ := hw'
      subst hw''
      go_wp2
      go_roundw
      case rel => exact ⟨k + 1, by omega, by go_num, m + nq, by rw [HM.out, World.drewN_drewN]⟩
      case measure => simp [intOf]; omega
end Go.Proofs.YtdiaihpilniikaaGreat

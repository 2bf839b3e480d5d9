/- Contracts for FanCounts: asked, again. -/
import Derived.Test.YtijfkcbhojjgnaaFc4
import Derived.Test.YtijfkcbhojjgnaaWords
namespace Go.Proofs.Ytijfkcbhojjgnaa.fanCounts
open Go.RowKit

theorem int_info : (Try.prog.info? 3).map (fun i => (i.zero, i.size, i.bytes)) = some (some (.int .i64 0), 1, 8) := by kernel_rfl

theorem ints_cell (zs : List Int) (j : Nat) (u : Value) (h : (zs.map EI)[j]? = some u) : u = EI (zs.getD j 0) := by
  rw [List.getElem?_map] at h
  cases hj : zs[j]? with
  | none => rw [hj] at h; cases h
  | some z => rw [hj] at h; simp at h; rw [← h, List.getD, hj]; rfl

theorem ints_one (zs : List Int) : ∀ u ∈ zs.map EI, u.oneCell' = true := by
  intro u hu; obtain ⟨z, _, rfl⟩ := List.mem_map.1 hu; rfl

theorem add_plain (b off i : Nat) : (⟨b, off, none⟩ : Addr).add i = ⟨b, off + i, none⟩ := by
  unfold Addr.add; split
  · next h => subst h; rfl
  · rfl

/-- The numbers of a row, as the append's law reads them. -/
theorem reads_row {w : World} {a : Option Addr} {len : Nat} {zs : List Int} (h : IsRow EI w a len zs) : Reads w w.heap.size 1 a len (zs.map EI) := by
  rcases h with ⟨rfl, rfl⟩ | ⟨b, off, rfl, hz, hc⟩
  · exact ⟨by simp, fun h => absurd h (by omega)⟩
  · refine ⟨by simp [hz], fun hn => ⟨_, rfl, World.block_lt_of_cell? _ _ (hc 0 hn), fun j u hu => ?_⟩⟩
    have hj : j < len := by
      have := (List.getElem?_eq_some_iff.1 hu).1
      simpa [hz] using this
    rw [add_plain, hc j hj, ints_cell zs j u hu]

/-- A row of the call's own reads as numbers. -/
theorem row_own {w : World} {base : Nat} {e : TypeId} {a : Option Addr} {n c : Nat} {zs : List Int} (h : w.ownsRow base e 1 (.slice a n c) n (zs.map EI)) (hl : zs.length = n) : IsRow EI w a n zs := by
  by_cases hn : n = 0
  · exact .inl ⟨hn, List.eq_nil_of_length_eq_zero (by omega)⟩
  · obtain ⟨g, cap, hv, _, hlt⟩ := h.form (by omega)
    have hA : a = some ⟨g, 0, none⟩ := by injection hv
    subst hA
    refine .inr ⟨g, 0, rfl, hl, fun i hi => ?_⟩
    have := h.cells (g := g) rfl i (EI (zs.getD i 0)) (by simp [List.getD, hl, hi])
    rw [add_plain] at this
    exact this

theorem own_shape {w : World} {base : Nat} {e : TypeId} {size n : Nat} {v : Value} {xs : List Value} (h : w.ownsRow base e size v n xs) : ∃ a c, v = .slice a n c ∧ n ≤ c := by
  rcases h.2 with ⟨rfl, rfl⟩ | ⟨g, cap, cur, rfl, _, _, hnc, _⟩
  · exact ⟨none, 0, rfl, Nat.le_refl _⟩
  · exact ⟨_, cap, rfl, hnc⟩

theorem quiet_zero {P : Program} {f : FuncId} {args : Array Value} {w : World} {n : Nat} {v : Value}
    (h : Calls P f args (w.drewN n) fun e w' => e = .returned v ∧ ∃ m, w' = (w.drewN n).drewN m) :
    Calls P f args (w.drewN n) fun e w'' => e = .returned v ∧ ∃ m, w'' = w.drewN m :=
  h.mono fun _ _ ⟨he, m, hm⟩ => ⟨he, n + m, by rw [hm, World.drewN_drewN]⟩

set_option maxHeartbeats 1000000 in
theorem asked_row (b off len cap : Nat) (zs : List Int) (x : Int) (w : World) (hm : len ≤ 1048576) (hz : zs.length = len) (hcap : len < cap)
    (hc : ∀ i, i < len → w.cell? ⟨b, off + i, none⟩ = some (EI (zs.getD i 0))) (h77 : w.cell? ⟨b, off + len, none⟩ = some (.int .i64 77)) :
    Calls Try.prog 11 #[.slice (some ⟨b, off, none⟩) len cap, .int .i64 x] w fun e w' => e = .returned (.bool true) ∧ Below w.heap.size w w' := by
  have HR : Hid (IsRow EI w (some ⟨b, off, none⟩) len zs) := Lib.hid (Or.inr ⟨b, off, rfl, hz, hc⟩)
  obtain ⟨i0, hi0, hz0, hz1, hz2⟩ := info_parts int_info
  have HZ := Lib.hid hz; clear hz
  have HC := Lib.hid hc; clear hc
  have hbl := World.block_lt_of_cell? _ _ h77
  have H77 := Lib.hid h77; clear h77
  have htm := times_bd zs
  go_enter Try.func11, Try.ntmps11
  go_wp2_with (at_builtin; refine wpList_append_any _ rfl (.const (.slice none 0 0)) (.tmp 11) _ rfl w.heap.size 3 i0 _ 1 8 Try.underlying23 hi0 hz0 hz1 hz2 rfl (by omega) (.slice none 0 0) 0 [] rfl ⟨by simp, .inl ⟨rfl, rfl⟩⟩ w.heap.size (some ⟨b, off, none⟩) len cap (zs.map EI) rfl (reads_row HR.out) (ints_one zs) (by simp only [maxLen]; omega) (by omega) (Nat.le_refl _) ?_; intro v1 w1 hown1 hg1 hat1)
  obtain ⟨a1, c1, rfl, hnc1⟩ := own_shape hown1
  simp only [Nat.zero_add, List.nil_append] at hown1 hnc1
  have hb1 : Below w.heap.size w w1 := (Below.refl _ _).grown hg1 (Nat.le_refl _) (by simp [Value.ownBlock])
  have HO1 : Hid (IsRow EI w1 a1 len zs) := row_own hown1 HZ.out
  have HR1 : Hid (IsRow EI w1 (some ⟨b, off, none⟩) len zs) := HR.out.below hb1
  have h77 : w1.cell? ⟨b, off + len, none⟩ = some (.int .i64 77) := by rw [hb1.cell hbl]; exact H77.out
  have HB1 := Lib.hid hb1
  clear hown1 hg1 hat1 hb1 hnc1 hbl
  rw [Nat.zero_add]
  refine (rmost_any _ _ _ _ _ hm HO1.out).mono ?_
  rintro e w2 ⟨rfl, n2, rfl⟩
  go_wp2_with (first
    | (go_at_call 30; refine (icount_any _ _ _ _ _ _ hm (HR1.out.drewN _)).mono ?_; rintro e w' ⟨rfl, rfl⟩)
    | (go_at_call 15; refine (rcount_any _ _ _ _ _ _ hm (HO1.out.drewN _)).mono ?_; rintro e w' ⟨rfl, rfl⟩)
    | (go_at_call 31; refine (imost_any _ _ _ _ _ hm (HR1.out.drewN _)).mono ?_; rintro e w' ⟨rfl, rfl⟩)
    | (go_at_call 32; refine (same_any _ _ _ _ _ _ _ hm (HR1.out.drewN _) (HO1.out.drewN _)).mono ?_; rintro e w' ⟨rfl, n3, rfl⟩))
  go_ret
  exact ⟨rfl, below_drewN HB1.out _⟩

/-- The row of 'again': in block b, from its head on; of the first len cells the first k hold x; what lies behind them is as it was. -/
structure Filled (w wr : World) (b len k : Nat) (x : Int) : Prop where
  grown : w.grownBy wr (some b)
  done : ∀ j, j < k → wr.cell? ⟨b, j, none⟩ = some (.int .i64 x)
  cell : ∀ j, j < len → ∃ z, wr.cell? ⟨b, j, none⟩ = some (.int .i64 z)
  rest : ∀ j, len ≤ j → wr.cell? ⟨b, j, none⟩ = w.cell? ⟨b, j, none⟩
  frozen : ∀ j, wr.frozen? ⟨b, j, none⟩ = false

theorem Filled.step {w wr : World} {b len k : Nat} {x : Int} (h : Filled w wr b len k x) (hk : k < len) : Filled w (wr.setCell ⟨b, k, none⟩ (.int .i64 x)) b len (k + 1) x := by
  obtain ⟨z, hz⟩ := h.cell k hk
  have ne : ∀ j, j ≠ k → (wr.setCell ⟨b, k, none⟩ (.int .i64 x)).cell? ⟨b, j, none⟩ = wr.cell? ⟨b, j, none⟩ := fun j hj =>
    World.cell?_setCell_other _ _ _ _ (fun e => hj (by injection e with _ e _; exact e.symm))
  have eq : (wr.setCell ⟨b, k, none⟩ (.int .i64 x)).cell? ⟨b, k, none⟩ = some (.int .i64 x) := World.cell?_setCell_same _ _ _ hz
  refine ⟨⟨h.grown.os, h.grown.tape, h.grown.output, by simpa [World.setCell] using h.grown.size, fun i hi hne => (Below.heap_setCell wr _ _ i (fun e => hne (by rw [e]))).trans (h.grown.block i hi hne)⟩, ?_, ?_, ?_, ?_⟩
  · intro j hj
    by_cases e : j = k
    · subst e; exact eq
    · rw [ne j e]; exact h.done j (by omega)
  · intro j hj
    by_cases e : j = k
    · subst e; exact ⟨x, eq⟩
    · rw [ne j e]; exact h.cell j hj
  · intro j hj
    rw [ne j (by omega)]; exact h.rest j hj
  · intro j; simp [h.frozen j]

theorem Filled.row {w wr : World} {b len : Nat} {x : Int} (h : Filled w wr b len len x) : IsRow EI wr (some ⟨b, 0, none⟩) len (List.replicate len x) := by
  by_cases h0 : len = 0
  · exact .inl ⟨h0, by rw [h0]; rfl⟩
  · refine .inr ⟨b, 0, rfl, by simp, fun i hi => ?_⟩
    rw [Nat.zero_add, h.done i hi]; simp [List.getD, hi]

theorem Filled.restart {w wr : World} {b len k : Nat} {x : Int} (h : Filled w wr b len k x) (y : Int) : Filled w wr b len 0 y :=
  ⟨h.grown, fun j hj => by omega, h.cell, h.rest, h.frozen⟩

set_option maxHeartbeats 1000000 in
theorem again_row (b len cap : Nat) (zs : List Int) (x : Int) (w : World) (hm : len ≤ 1048576) (hcap : len < cap) (hpos : 0 < len)
    (hr : IsRow EI w (some ⟨b, 0, none⟩) len zs) (hfr : ∀ j, w.frozen? ⟨b, j, none⟩ = false) :
    Calls Try.prog 12 #[.slice (some ⟨b, 0, none⟩) len cap, .int .i64 x] w fun e w' => e = .returned (.bool true) ∧ Filled w w' b len len (wrap64 (x + 1)) := by
  have HR := Lib.hid hr
  have hf0 : Filled w w b len 0 x := by
    refine ⟨World.grownBy.refl _ _, fun j hj => by omega, fun j hj => ?_, fun j _ => rfl, hfr⟩
    rcases hr with ⟨h0, _⟩ | ⟨b', off, he, hz, hc⟩
    · omega
    · injection he with he
      injection he with h1 h2
      subst h1 h2
      refine ⟨_, by rw [← hc j hj, Nat.zero_add]⟩
  have HF0 := Lib.hid hf0; clear hf0 hr hfr
  go_enter Try.func12, Try.ntmps12
  go_wp2_with (go_at_call 30; refine (icount_any _ _ _ _ _ _ hm HR.out).mono ?_; rintro e w' ⟨rfl, rfl⟩)
  go_loopw [6] (fun s wr => ∃ k : Nat, k ≤ len ∧ s = .int .i64 k ∧ Filled w wr b len k x) (fun s _ => len - (intOf s).toNat)
  case atStart => exact ⟨0, Nat.zero_le _, rfl, HF0.out⟩
  case round =>
    obtain ⟨k, hk, rfl, hf⟩ := hrel
    have HF := Lib.hid hf; clear hf
    by_cases hlt : k < len
    · obtain ⟨z, hz⟩ := HF.out.cell k hlt
      have hfk := HF.out.frozen k
      go_wp2
      go_roundw
      case rel => exact ⟨k + 1, by omega, by go_num, HF.out.step hlt⟩
      case measure => simp [intOf]; omega
    · have hkl : k = len := by omega
      subst hkl
      have hcnt := Lib.hid (cnt_same k x)
      have ht := Lib.hid (times_same k x)
      go_wp2_with (first
        | (go_at_call 30; refine (icount_any _ _ _ _ _ _ hm HF.out.row).mono ?_; rintro e w' ⟨rfl, rfl⟩; rw [hcnt.out])
        | (go_at_call 31; refine (imost_any _ _ _ _ _ hm HF.out.row).mono ?_; rintro e w' ⟨rfl, rfl⟩; rw [ht.out]))
      obtain ⟨y, hy⟩ : ∃ y, y = wrap64 (x + 1) := ⟨_, rfl⟩
      have hf2 := HF.out.restart y
      have HF2 := Lib.hid hf2; clear hf2
      have HY := Lib.hid hy; clear hy
      clear hcnt ht
      go_loopw [7] (fun s wq => ∃ j : Nat, j ≤ k ∧ s = .int .i64 j ∧ Filled w wq b k j y) (fun s _ => k - (intOf s).toNat)
      case atStart => exact ⟨0, Nat.zero_le _, rfl, HF2.out⟩
      case round =>
        obtain ⟨j, hj, rfl, hf⟩ := hrel
        have HG := Lib.hid hf; clear hf
        by_cases hlt : j < k
        · obtain ⟨z, hz⟩ := HG.out.cell j hlt
          have hfk := HG.out.frozen j
          have HST := Lib.hid (HG.out.step hlt)
          rw [HY.out] at HST
          go_wp2
          go_roundw
          case rel => exact ⟨j + 1, by omega, by go_num, by rw [HY.out]; exact HST.out⟩
          case measure => simp [intOf]; omega
        · have hjk : j = k := by omega
          subst hjk
          have ht := Lib.hid (times_same j y)
          have hmo := Lib.hid (most_same j y hpos)
          have h0 : ((j : Int) == 0) = false := by simp; omega
          go_wp2_with (go_at_call 31; refine (imost_any _ _ _ _ _ hm HG.out.row).mono ?_; rintro e w' ⟨rfl, rfl⟩; rw [ht.out, hmo.out, HY.out])
          go_ret
          exact ⟨rfl, by rw [← HY.out]; exact HG.out⟩

set_option maxHeartbeats 1000000 in
theorem again_nil (b cap : Nat) (x : Int) (w : World) :
    Calls Try.prog 12 #[.slice (some ⟨b, 0, none⟩) 0 cap, .int .i64 x] w fun e w' => e = .returned (.bool true) ∧ w = w' := by
  have hc0 : cnt [] x = 0 := rfl
  have HC := Lib.hid hc0; clear hc0
  have hm0 : most [] = 0 := rfl
  have HM := Lib.hid hm0; clear hm0
  have ht0 : times [] = 0 := rfl
  have HT := Lib.hid ht0; clear ht0
  have hr : IsRow EI w (some ⟨b, 0, none⟩) 0 [] := .inl ⟨rfl, rfl⟩
  have HR := Lib.hid hr; clear hr
  go_enter Try.func12, Try.ntmps12
  go_wp2_with (go_at_call 30; refine (icount_any _ _ _ _ _ _ (by omega) HR.out).mono ?_; rintro e w' ⟨rfl, rfl⟩; rw [HC.out])
  refine wp_loop_rounds 1 ?_
  rw [rounds_succ]
  go_wp2_with (first
    | (go_at_call 30; refine (icount_any _ _ _ _ _ _ (by omega) HR.out).mono ?_; rintro e w' ⟨rfl, rfl⟩; rw [HC.out])
    | (go_at_call 31; refine (imost_any _ _ _ _ _ (by omega) HR.out).mono ?_; rintro e w' ⟨rfl, rfl⟩; rw [HM.out, HT.out]))
  refine wp_loop_rounds 1 ?_
  rw [rounds_succ]
  go_wp2_with (first
    | (go_at_call 31; refine (imost_any _ _ _ _ _ (by omega) HR.out).mono ?_; rintro e w' ⟨rfl, rfl⟩; rw [HM.out, HT.out]))
  go_ret
  exact ⟨rfl, rfl⟩

theorem again_any (b len cap : Nat) (zs : List Int) (x : Int) (w : World) (hm : len ≤ 1048576) (hcap : len < cap)
    (hr : IsRow EI w (some ⟨b, 0, none⟩) len zs) (hfr : ∀ j, w.frozen? ⟨b, j, none⟩ = false) :
    Calls Try.prog 12 #[.slice (some ⟨b, 0, none⟩) len cap, .int .i64 x] w fun e w' => e = .returned (.bool true) ∧ Filled w w' b len len (wrap64 (x + 1)) := by
  by_cases h0 : len = 0
  · subst h0
    refine (again_nil b cap x w).mono ?_
    rintro e w' ⟨rfl, rfl⟩
    exact ⟨rfl, World.grownBy.refl _ _, fun j hj => by omega, fun j hj => by omega, fun j _ => rfl, hfr⟩
  · exact again_row b len cap zs x w hm hcap (by omega) hr hfr
end Go.Proofs.Ytijfkcbhojjgnaa.fanCounts

/- What LabelAtomic's walk wants besides: Struck; a list of one label; 'among' by what the drive shows. -/
import Derived.Test.YtdiaihpilniikaaGreatZhJ
import Derived.Test.YtdiaihpilniikaaGreatLuJ
import Derived.Great.BuildSlice
namespace Go.Proofs.YtdiaihpilniikaaGreat
open Go.RowKit Go.Maps

theorem wlit_any (q p : Nat) (X : Wnd) (S : Drv) (F : Nat → Prop) (w : World) (h : WD w q p X S F) : Calls Tryz.prog 21 #[.pointer (some ⟨q, 0, none⟩)] w fun e w' => e = .returned (.bool X.lit) ∧ w = w' := by
  obtain ⟨pv, fq, hw, _⟩ := h.wn
  exact lit_any q _ X pv fq w hw
theorem wcrash_any (q p : Nat) (X : Wnd) (S : Drv) (N : Nat) (F : Nat → Prop) (pr : Option Addr) (nd cr : Nat) (dirs : List Bool) (pc : Option Addr) (nc cc : Nat) (cuts : List Int) (w : World) (h : WD w q p X S F) (hI : S.Inv N) (hN : N ≤ 2199023254000)
    (hr : Reads w w.heap.size 1 pr nd (dirs.map boolV)) (hc : Reads w w.heap.size 1 pc nc (cuts.map intV)) (hrs : ∀ ad, pr = some ad → ad.spot = none) (hcs : ∀ ad, pc = some ad → ad.spot = none) (hnd : nd ≤ 140737488351232) (hnc : nc ≤ 140737488351232) :
    Calls Tryz.prog 26 #[.pointer (some ⟨p, 0, none⟩), .agg #[.slice pr nd cr, .slice pc nc cc]] w fun e w' => e = .returned (.int .i64 0) ∧ WD w' q p X (S.crash dirs cuts) (grow F w w') ∧ Touch F w w' :=
  wd_lift (R := fun e => e = .returned (.int .i64 0)) h fun FD hd _ => crash_any p S N FD pr nd cr dirs pc nc cc cuts w hd hI hN hr hc hrs hcs hnd hnc
theorem labInfo : (Tryz.prog.info? 27).map (fun i => (i.zero, i.size, i.bytes)) = some (some (.agg #[.int .u8 0, .int .u8 0, .int .u8 0, .int .u8 0, .int .u8 0, .int .u8 0, .int .u8 0, .int .u8 0, .int .i64 0, .int .i64 0, .int .i64 0, .int .i64 0, .int .i64 0]), 13, 48) := by kernel_rfl
theorem fill_lab (v0 v1 v2 v3 v4 v5 v6 v7 v8 v9 va vb vc : Value) : Instr.fill (fun i => some (i * 13, 13)) ((Array.range (1 * 13)).map ((Value.agg #[.int .u8 0, .int .u8 0, .int .u8 0, .int .u8 0, .int .u8 0, .int .u8 0, .int .u8 0, .int .u8 0, .int .i64 0, .int .i64 0, .int .i64 0, .int .i64 0, .int .i64 0]).cells[· % (Value.agg #[.int .u8 0, .int .u8 0, .int .u8 0, .int .u8 0, .int .u8 0, .int .u8 0, .int .u8 0, .int .u8 0, .int .i64 0, .int .i64 0, .int .i64 0, .int .i64 0, .int .i64 0]).cells.size]!)) (#[((0 : Nat), Value.agg #[v0, v1, v2, v3, v4, v5, v6, v7, v8, v9, va, vb, vc])] : Array (Nat × Value)).toList = some #[v0, v1, v2, v3, v4, v5, v6, v7, v8, v9, va, vb, vc] := by
  kernel_rfl
/-- A list of one label. -/
theorem build_lab (l : Lab) (hl : l.st.length = 8) (W : World) : (Instr.buildSlice 55 1 #[(0, labV l)]).run Tryz.prog W = .ok (.slice (some ⟨W.heap.size, 0, none⟩) 1 1) (W.alloc (.cells (labCells l) 27)) := by
  obtain ⟨a0, a1, a2, a3, a4, a5, a6, a7, h⟩ := agg_of l hl
  have h2 : labCells l = #[.int .u8 (a0.toNat : Int), .int .u8 (a1.toNat : Int), .int .u8 (a2.toNat : Int), .int .u8 (a3.toNat : Int), .int .u8 (a4.toNat : Int), .int .u8 (a5.toNat : Int), .int .u8 (a6.toNat : Int), .int .u8 (a7.toNat : Int), .int .i64 l.k, .int .i64 l.m, .int .i64 l.b, .int .i64 l.i, .int .i64 l.e] := Value.agg.inj h
  rw [h2, h]
  clear h h2 hl
  obtain ⟨ie, hie, hz0, hz1, _⟩ := info_parts labInfo
  refine run_buildSlice W 55 27 1 _ _ ie _ Tryz.underlying55 hie hz0 (by rw [hz1]; decide) (by rw [hz1]; decide) ?_
  rw [hz1]
  generalize Value.int .u8 (a0.toNat : Int) = v0, Value.int .u8 (a1.toNat : Int) = v1, Value.int .u8 (a2.toNat : Int) = v2, Value.int .u8 (a3.toNat : Int) = v3, Value.int .u8 (a4.toNat : Int) = v4, Value.int .u8 (a5.toNat : Int) = v5, Value.int .u8 (a6.toNat : Int) = v6, Value.int .u8 (a7.toNat : Int) = v7, Value.int .i64 l.k = v8, Value.int .i64 l.m = v9, Value.int .i64 l.b = va, Value.int .i64 l.i = vb, Value.int .i64 l.e = vc
  exact fill_lab v0 v1 v2 v3 v4 v5 v6 v7 v8 v9 va vb vc
theorem labRow_one (l : Lab) : labRow [l] = (labCells l).toList := by show (labCells l).toList ++ [] = _; rw [List.append_nil]
theorem own_one {w : World} {h g : Nat} (l : Lab) (hl : l.st.length = 8) (hg : h ≤ g) (hb : Blk w g 27 (labCells l)) : w.ownsRow h 27 13 (.slice (some ⟨g, 0, none⟩) 1 1) 1 (labRow [l]) := by
  have hz := labCells_size l hl
  refine ⟨by rw [labRow_one, Array.length_toList, hz], .inr ⟨g, 1, labCells l, rfl, hg, hb, Nat.le_refl _, by unfold maxLen; omega, by rw [hz], ?_⟩⟩
  rw [labRow_one, List.take_of_length_le (by rw [Array.length_toList, hz]; exact Nat.le_refl 13)]
theorem labRow_snoc (labs : List Lab) (l : Lab) : labRow (labs ++ [l]) = labRow labs ++ (labCells l).toList := by unfold labRow; rw [List.flatMap_append]; show _ ++ labRow [l] = _; rw [labRow_one]

theorem first_at {l : Lab} : ∀ {labs : List Lab}, l ∈ labs → ∃ idx : Nat, labs[idx]? = some l ∧ ∀ (k : Nat) (m : Lab), k < idx → labs[k]? = some m → m ≠ l
  | x :: r, h => by
    by_cases e : x = l
    · exact ⟨0, by rw [e]; rfl, fun k m hk => by omega⟩
    · rcases List.mem_cons.1 h with h | h
      · exact absurd h.symm e
      · obtain ⟨idx, h1, h2⟩ := first_at h
        refine ⟨idx + 1, by simpa using h1, fun k m hk hm => ?_⟩
        cases k with
        | zero => simp at hm; rw [← hm]; exact e
        | succ k => exact h2 k m (by omega) (by simpa using hm)
/-- 'among', by what the drive shows. -/
theorem among_ok {h q p : Nat} {O : List Nat} {may : List Lab} {mv : Value} {X : Wnd} {S : Drv} {w : World} {c N : Nat} {nn : Bool} (hs : TS h q p O may mv X S w) (hh : h ≤ w.heap.size) (hC : Calm X) (hK : Kept X S c N 1048576) (hc : c ≤ 1152921504606846976) (hN : N ≤ 2199023254000) (hP : Pm may nn labN (S.shows labN)) (hl : ∀ l ∈ may, l.st.length = 8 ∧ l.may = 0) (hlen : may.length ≤ 3000) :
    Calls Tryz.prog 24 #[.pointer (some ⟨q, 0, none⟩), mv, .bool nn] w fun e w' => e = .returned (.bool true) ∧ TS h q p O may mv X.count S w' ∧ Below h w w' ∧ ∀ b ∈ O, w'.heap[b]? = w.heap[b]? := by
  refine hs.step hh (E := fun e _ => e = .returned (.bool true)) fun F hd hF hnF => ?_
  have hrow := hs.row
  have hok := hK.wnd.ok hc
  have hsm := hK.drv.small hN
  have hread := read_shows S
  rcases hP.1 rfl with ⟨h1, h2⟩ | ⟨l, hm, h1⟩
  · subst h2
    rw [h1] at hread
    obtain ⟨A, c', rfl, _⟩ := own_shape hrow
    refine (among_none q p X X.count S F [] A _ c' w hd (fun k hk => (hF k hk).2) hok hsm (by rw [hC.read]; show (X.count, (S.read labN).1, (S.read labN).2) = _; rw [hread]) (Nat.zero_le _)).mono ?_
    rintro e w' ⟨he, hw, ht⟩
    exact ⟨he, hw.mono fun k hk => .inl hk, ht⟩
  · rw [h1] at hread
    obtain ⟨idx, hi, hmin⟩ := first_at hm
    have hpos : 0 < may.length := List.length_pos_of_mem hm
    obtain ⟨g, cap, rfl, hg1, hg2⟩ := hrow.form hpos
    refine (among_some q p X X.count S F l.bytes g may.length cap may l idx nn w hd (fun k hk => (hF k hk).2) hok hsm (by rw [hC.read]; show (X.count, (S.read labN).1, (S.read labN).2) = _; rw [hread]) (by rw [l.bytes_length (hl l hm).1]; decide) (Lab.parse_bytes l (hl l hm).1 (hl l hm).2) (fun m hm => (hl m hm).1) rfl (Reads.of_own hrow) (hnF g rfl) (by omega) hi hmin).mono ?_
    rintro e w' ⟨he, hw, ht⟩
    exact ⟨he, hw.mono fun k hk => .inl hk, ht⟩
end Go.Proofs.YtdiaihpilniikaaGreat

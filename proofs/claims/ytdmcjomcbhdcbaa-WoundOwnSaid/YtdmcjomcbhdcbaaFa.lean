/- The law's helper 'fate': a fate in new memory; Crash asked with it. -/
import Derived.Test.YtdmcjomcbhdcbaaLk
namespace Go.Proofs.Ytdmcjomcbhdcbaa
open Go.RowKit Go.Maps

theorem boolInfo : (Try.prog.info? 4).map (fun i => (i.zero, i.size, i.bytes)) = some (some (.bool false), 1, 1) := by kernel_rfl
theorem intInfo : (Try.prog.info? 3).map (fun i => (i.zero, i.size, i.bytes)) = some (some (.int .i64 0), 1, 8) := by kernel_rfl

theorem spot_none {w : World} {base : Nat} {e : TypeId} {s n c : Nat} {A : Option Addr} {xs : List Value} (h : w.ownsRow base e s (.slice A n c) n xs) : ∀ ad, A = some ad → ad.spot = none := by
  rintro ad rfl
  rcases h.2 with ⟨h1, _⟩ | ⟨g, cap, cur, h1, _⟩
  · cases h1
  · injection h1 with h1; injection h1 with h1; subst h1; rfl

set_option maxRecDepth 100000 in
set_option maxHeartbeats 2000000 in
theorem fate_any (pr : Option Addr) (nd cr : Nat) (dirs : List Bool) (pc : Option Addr) (nc cc : Nat) (cuts : List Int) (w : World) (B : Nat) (hr : Reads w B 1 pr nd (dirs.map boolV)) (hc : Reads w B 1 pc nc (cuts.map intV)) (hB : B ≤ w.heap.size) (hnd : nd ≤ 140737488351232) (hnc : nc * 8 ≤ 140737488351232) :
    Calls Try.prog 44 #[.agg #[.slice pr nd cr, .slice pc nc cc]] w fun e w' => ∃ A c A' c', e = .returned (.agg #[.slice A nd c, .slice A' nc c']) ∧
      w'.ownsRow w.heap.size 4 1 (.slice A nd c) nd (dirs.map boolV) ∧ w'.ownsRow w.heap.size 3 1 (.slice A' nc c') nc (cuts.map intV) ∧ Below w.heap.size w w' := by
  have HR := Lib.hid hr
  have HC := Lib.hid hc
  have HB1 : Hid (∀ u ∈ dirs.map boolV, u.oneCell' = true) := by intro u hu; simp only [List.mem_map] at hu; obtain ⟨b, _, rfl⟩ := hu; rfl
  have HB2 : Hid (∀ u ∈ cuts.map intV, u.oneCell' = true) := by intro u hu; simp only [List.mem_map] at hu; obtain ⟨b, _, rfl⟩ := hu; rfl
  have hm1 : 0 + nd ≤ maxLen := by simp only [maxLen]; omega
  have hm2 : 0 + nc ≤ maxLen := by simp only [maxLen]; omega
  have hm3 : (0 + nd) * 1 ≤ 140737488355328 := by omega
  have hm4 : (0 + nc) * 8 ≤ 140737488355328 := by omega
  have HM1 := Lib.hid hm1
  have HM2 := Lib.hid hm2
  have HM3 := Lib.hid hm3
  have HM4 := Lib.hid hm4
  obtain ⟨W, hW⟩ : ∃ W, W = ((w.alloc (.cells #[.slice pr nd cr, .slice pc nc cc] 67)).alloc (.cells #[.slice none 0 0, .slice none 0 0] 67)).alloc (.cells #[.slice none 0 0, .slice none 0 0] 67) := ⟨_, rfl⟩
  have hWB : Below w.heap.size w W := by rw [hW]; exact (((Below.refl _ w).alloc (Nat.le_refl _) _).alloc (by simp) _).alloc (by simp; omega) _
  have HWB := Lib.hid hWB
  have hws : W.heap.size = w.heap.size + 3 := by rw [hW]; simp
  have HWS := Lib.hid hws
  have HX : Hid (Blk W w.heap.size 67 #[.slice pr nd cr, .slice pc nc cc]) := Lib.hid (by rw [hW]; exact ((Blk.new _ _ _).alloc _).alloc _)
  have HBR : Hid (Blk W (w.heap.size + 1) 67 #[.slice none 0 0, .slice none 0 0]) := Lib.hid (by
    rw [hW]
    have := (Blk.new (w.alloc (.cells #[.slice pr nd cr, .slice pc nc cc] 67)) 67 #[.slice none 0 0, .slice none 0 0]).alloc (.cells #[.slice none 0 0, .slice none 0 0] 67)
    rwa [alloc_size] at this)
  have HBS : Hid (Blk W (w.heap.size + 1 + 1) 67 #[.slice none 0 0, .slice none 0 0]) := Lib.hid (by
    rw [hW]
    have := Blk.new ((w.alloc (.cells #[.slice pr nd cr, .slice pc nc cc] 67)).alloc (.cells #[.slice none 0 0, .slice none 0 0] 67)) 67 #[.slice none 0 0, .slice none 0 0]
    rwa [alloc_size, alloc_size] at this)
  have HW := Lib.hid hW
  clear hr hc hm1 hm2 hm3 hm4 hWB hws hW
  obtain ⟨i4, hi4, hz40, hz41, hz42⟩ := info_parts boolInfo
  obtain ⟨i3, hi3, hz30, hz31, hz32⟩ := info_parts intInfo
  go_enter Try.func44, Try.ntmps44
  go_wp2_with (first
    | (at_builtin; refine wpList_append_any _ rfl (.tmp 5) (.tmp 7) 64 rfl w.heap.size 4 i4 _ 1 1 Try.underlying64 hi4 hz40 hz41 hz42 rfl (by omega) (.slice none 0 0) 0 [] rfl (World.ownsRow_nil _ _ _ _) B pr nd cr (dirs.map boolV) rfl (by rw [← HW.out]; exact HR.out.below (HWB.out.mono hB)) HB1.out HM1.out HM3.out (by rw [← HW.out]; exact HWB.out.size) ?_; rw [← HW.out]; intro v1 w1 hown1 hg1 hat1; obtain ⟨A1, c1, rfl, _⟩ := own_shape hown1; rw [Nat.zero_add, List.nil_append] at hown1; have HO1 := Lib.hid hown1; have HB1W : Hid (Below w.heap.size w w1) := Lib.hid (HWB.out.grown hg1 HWB.out.size (fun k hk => by simp [Value.ownBlock] at hk)); have HX1 := Lib.hid (HX.out.grown hg1 (by simp [Value.ownBlock])); have HBR1 := Lib.hid (HBR.out.grown hg1 (by simp [Value.ownBlock])); have HBS1 := Lib.hid (HBS.out.grown hg1 (by simp [Value.ownBlock])); clear hown1 hg1 hat1; have x1 : w1.cell? ⟨w.heap.size, 1, none⟩ = some (.slice pc nc cc) := HX1.out.cell 1; have s0 : w1.cell? ⟨w.heap.size + 1 + 1, 0, none⟩ = some (.slice none 0 0) := HBS1.out.cell 0; have s1 : w1.cell? ⟨w.heap.size + 1 + 1, 1, none⟩ = some (.slice none 0 0) := HBS1.out.cell 1; have sf : ∀ i, w1.frozen? ⟨w.heap.size + 1 + 1, i, none⟩ = false := HBS1.out.frozen)
    | (at_builtin; refine wpList_append_any _ rfl (.tmp 11) (.tmp 13) 65 rfl w.heap.size 3 i3 _ 1 8 Try.underlying65 hi3 hz30 hz31 hz32 rfl (by omega) (.slice none 0 0) 0 [] rfl (World.ownsRow_nil _ _ _ _) B pc nc cc (cuts.map intV) rfl (HC.out.far fun k hk => (Below.heap_setCell _ _ _ k (by show k ≠ w.heap.size + 1 + 1; omega)).trans (HB1W.out.block k (by omega))) HB2.out HM2.out HM4.out (by rw [size_set]; exact HB1W.out.size) ?_; intro v2 w3 hown2 hg2 hat2; obtain ⟨A2, c2, rfl, _⟩ := own_shape hown2; rw [Nat.zero_add, List.nil_append] at hown2; have HO2 := Lib.hid hown2; have HO3 : Hid (w3.ownsRow w.heap.size 4 1 (.slice A1 nd c1) nd (dirs.map boolV)) := Lib.hid ((ownsRow_keep HO1.out fun k hk => Below.heap_setCell _ _ _ k (fun e => own_blk_ne HO1.out HBS1.out (by decide) (by rw [hk]; exact congrArg some e))).kept hg2 (by cases hob : (Value.slice A1 nd c1).ownBlock with | none => exact .inl rfl | some k => exact .inr (by simp [Value.ownBlock]))); have HB3 : Hid (Below w.heap.size w w3) := Lib.hid ((HB1W.out.setCell (by show w.heap.size ≤ w.heap.size + 1 + 1; omega) _).grown hg2 (by rw [size_set]; exact HB1W.out.size) (fun k hk => by simp [Value.ownBlock] at hk)); have HBS3 := Lib.hid ((HBS1.out.set_ 0 (.slice A1 nd c1)).grown hg2 (by simp [Value.ownBlock])); have HBR3 := Lib.hid ((HBR1.out.far (p := ⟨w.heap.size + 1 + 1, 0, none⟩) (by simp) (.slice A1 nd c1)).grown hg2 (by simp [Value.ownBlock])); clear hown2 hg2 hat2 x1 s0 s1 sf; have t0 : w3.cell? ⟨w.heap.size + 1 + 1, 0, none⟩ = some (.slice A1 nd c1) := HBS3.out.cell 0; have t1 : w3.cell? ⟨w.heap.size + 1 + 1, 1, none⟩ = some (.slice none 0 0) := HBS3.out.cell 1; have tf : ∀ i, w3.frozen? ⟨w.heap.size + 1 + 1, i, none⟩ = false := HBS3.out.frozen; have r0 : w3.cell? ⟨w.heap.size + 1, 0, none⟩ = some (.slice none 0 0) := HBR3.out.cell 0; have r1 : w3.cell? ⟨w.heap.size + 1, 1, none⟩ = some (.slice none 0 0) := HBR3.out.cell 1; have rf : ∀ i, w3.frozen? ⟨w.heap.size + 1, i, none⟩ = false := HBR3.out.frozen))
  refine bodyPost_ret (v := .agg #[.slice A1 nd c1, .slice A2 nc c2]) (by simp only [results, Try.results44]; go_simp) rfl ?_
  have hfin : ∀ k, k = w.heap.size + 1 ∨ k = w.heap.size + 1 + 1 → w.heap.size ≤ k := fun k hk => by omega
  have f1 : ∀ {e : TypeId} {s n : Nat} {v : Value} {xs : List Value}, w3.ownsRow w.heap.size e s v n xs → e ≠ 67 → ∀ k, v.ownBlock = some k → k ≠ w.heap.size + 1 ∧ k ≠ w.heap.size + 1 + 1 := fun h he k hk =>
    ⟨fun e => own_blk_ne h HBR3.out he (by rw [hk, e]), fun e => own_blk_ne h HBS3.out he (by rw [hk, e])⟩
  refine ⟨A1, c1, A2, c2, rfl, ownsRow_keep HO3.out fun k hk => ?_, ownsRow_keep HO2.out fun k hk => ?_, ?_⟩
  · obtain ⟨n1, n2⟩ := f1 HO3.out (by decide) k hk
    exact (Below.heap_setCell _ _ _ k n1).trans ((Below.heap_setCell _ _ _ k n1).trans (Below.heap_setCell _ _ _ k n2))
  · obtain ⟨n1, n2⟩ := f1 HO2.out (by decide) k hk
    exact (Below.heap_setCell _ _ _ k n1).trans ((Below.heap_setCell _ _ _ k n1).trans (Below.heap_setCell _ _ _ k n2))
  · exact ((HB3.out.setCell (hfin _ (.inr rfl)) _).setCell (hfin _ (.inl rfl)) _).setCell (hfin _ (.inl rfl)) _
end Go.Proofs.Ytdmcjomcbhdcbaa

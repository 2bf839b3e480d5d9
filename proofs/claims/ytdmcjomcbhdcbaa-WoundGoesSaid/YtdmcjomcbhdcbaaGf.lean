/- The law's helper 'led', at the wound's own kinds. -/
import Derived.Test.YtdmcjomcbhdcbaaGe
namespace Go.Proofs.Ytdmcjomcbhdcbaa
open Go.RowKit Go.Maps

theorem said_zero {W : World} {b : Nat} (h : Blk W b 41 zeroSaid) : W.cell? ⟨b, 0, none⟩ = some (.int .i64 0) ∧ W.cell? ⟨b, 1, none⟩ = some (.slice none 0 0) ∧ W.cell? ⟨b, 2, none⟩ = some (.slice none 0 0) ∧ W.cell? ⟨b, 3, none⟩ = some (.slice none 0 0) ∧ W.cell? ⟨b, 4, none⟩ = some (.int .i64 0) ∧ W.cell? ⟨b, 5, none⟩ = some (.bool false) :=
  ⟨h.cell 0, h.cell 1, h.cell 2, h.cell 3, h.cell 4, h.cell 5⟩

set_option maxHeartbeats 1000000 in
theorem garm_any (g : GCells) (A : Option Addr) (n c : Nat) (l : List (Int × Int)) (w : World) (B : Nat) (hr : Reads w B 2 A n (planCells l)) (hn : n * 16 ≤ 140737488351232) (hB : B ≤ w.heap.size) :
    Calls Try.prog 60 #[.agg (gcells g), .slice A n c] w fun e w' => ∃ pa pc, e = .returned (.agg (gcells { g with pa := pa, pn := n, pc := pc, k := 0 })) ∧ w'.ownsRow w.heap.size 46 2 (.slice pa n pc) n (planCells l) ∧ Below w.heap.size w w' := by
  obtain ⟨W, hW⟩ : ∃ W, W = (w.alloc (.cells (gcells g) 61)).alloc (.cells zeroGate 61) := ⟨_, rfl⟩
  have hWB : Below w.heap.size w W := by rw [hW]; exact ((Below.refl _ w).alloc (Nat.le_refl _) _).alloc (by simp) _
  have HWB := Lib.hid hWB
  have HG : Hid (Blk W w.heap.size 61 (gcells g)) := Lib.hid (by rw [hW]; exact (Blk.new _ _ _).alloc _)
  have HQ : Hid (Blk W (w.heap.size + 1) 61 zeroGate) := Lib.hid (by rw [hW]; exact blk_last _ _ _ _ (by simp))
  have HRD := Lib.hid ((hr.far fun k hk => hWB.block k (Nat.lt_of_lt_of_le hk hB)) : Reads W B 2 A n (planCells l))
  have HONE : Hid (∀ u ∈ planCells l, u.oneCell' = true) := Lib.hid (by
    intro u hu
    unfold planCells at hu
    simp only [List.mem_flatMap] at hu
    obtain ⟨f, _, hf⟩ := hu
    simp at hf
    rcases hf with rfl | rfl <;> rfl)
  have hws : W.heap.size = w.heap.size + 2 := by rw [hW]; simp
  have HWS := Lib.hid hws
  unfold gcells zeroGate at hW
  have HW := Lib.hid hW
  have hm63 : 0 + n ≤ maxLen := by simp only [maxLen]; omega
  have HM63 := Lib.hid hm63
  have hm40 : (0 + n) * 16 ≤ 140737488355328 := by omega
  have HM40 := Lib.hid hm40
  clear hr hm63 hm40 hW hWB hws
  obtain ⟨i5, hi5, hz0, hz1, hz2⟩ := info_parts faultInfo
  unfold gcells
  go_enter Try.func60, Try.ntmps60
  go_wp2_with (at_builtin; go_loud (rw [← HW.out]; refine wpList_append_any _ rfl _ _ 47 rfl W.heap.size 46 i5 _ 2 16 Try.underlying47 hi5 hz0 hz1 hz2 rfl (by omega) (.slice none 0 0) 0 [] rfl (World.ownsRow_nil _ _ _ _) B A n c (planCells l) rfl HRD.out HONE.out HM63.out HM40.out (Nat.le_refl _) ?_); intro v1 w1 hown1 hg1 hat1; obtain ⟨a1, c1, hv1, _⟩ := own_shape hown1; subst hv1; rw [Nat.zero_add] at hown1 ⊢; have HB1 : Hid (Below W.heap.size W w1) := Lib.hid ((Below.refl _ _).grown hg1 (Nat.le_refl _) (fun k hk => by simp [Value.ownBlock] at hk)); have HOWN := Lib.hid hown1; have k1 := HG.out.below HB1.out HG.out.lt; have k2 := HQ.out.below HB1.out HQ.out.lt; have g0 : w1.cell? ⟨w.heap.size, 0, none⟩ = some (.bool g.d) := k1.cell 0; have g1 : w1.cell? ⟨w.heap.size, 1, none⟩ = some (.bool g.a) := k1.cell 1; have g2 : w1.cell? ⟨w.heap.size, 2, none⟩ = some (.slice g.pa g.pn g.pc) := k1.cell 2; have g3 : w1.cell? ⟨w.heap.size, 3, none⟩ = some (.int .i64 g.k) := k1.cell 3; have g4 : w1.cell? ⟨w.heap.size, 4, none⟩ = some (.int .i64 g.r) := k1.cell 4; have g5 : w1.cell? ⟨w.heap.size, 5, none⟩ = some (.bool g.laid) := k1.cell 5; have g6 : w1.cell? ⟨w.heap.size, 6, none⟩ = some (.int .i64 g.R) := k1.cell 6; have g7 : w1.cell? ⟨w.heap.size, 7, none⟩ = some (.int .i64 g.C) := k1.cell 7; have g8 : w1.cell? ⟨w.heap.size, 8, none⟩ = some (.int .i64 g.I) := k1.cell 8; have gf : ∀ i, w1.frozen? ⟨w.heap.size, i, none⟩ = false := k1.frozen; have q0 : w1.cell? ⟨w.heap.size + 1, 0, none⟩ = some (.bool false) := k2.cell 0; have q1 : w1.cell? ⟨w.heap.size + 1, 1, none⟩ = some (.bool false) := k2.cell 1; have q2 : w1.cell? ⟨w.heap.size + 1, 2, none⟩ = some (.slice none 0 0) := k2.cell 2; have q3 : w1.cell? ⟨w.heap.size + 1, 3, none⟩ = some (.int .i64 0) := k2.cell 3; have q4 : w1.cell? ⟨w.heap.size + 1, 4, none⟩ = some (.int .i64 0) := k2.cell 4; have q5 : w1.cell? ⟨w.heap.size + 1, 5, none⟩ = some (.bool false) := k2.cell 5; have q6 : w1.cell? ⟨w.heap.size + 1, 6, none⟩ = some (.int .i64 0) := k2.cell 6; have q7 : w1.cell? ⟨w.heap.size + 1, 7, none⟩ = some (.int .i64 0) := k2.cell 7; have q8 : w1.cell? ⟨w.heap.size + 1, 8, none⟩ = some (.int .i64 0) := k2.cell 8; have qf : ∀ i, w1.frozen? ⟨w.heap.size + 1, i, none⟩ = false := k2.frozen; have hl1 : w.heap.size + 1 < w1.heap.size := k2.lt; have hl0 : w.heap.size < w1.heap.size := k1.lt; clear hown1 hg1 hat1 k1 k2)
  refine bodyPost_ret (v := .agg #[.bool g.d, .bool g.a, .slice a1 n c1, .int .i64 0, .int .i64 g.r, .bool g.laid, .int .i64 g.R, .int .i64 g.C, .int .i64 g.I]) (by simp only [results, Try.results60]; go_simp) rfl ?_
  refine ⟨a1, c1, rfl, ?_, ?_⟩
  · have hws := HWS.out
    refine ownsRow_base_a (row_touch (G := fun k => k = w.heap.size ∨ k = w.heap.size + 1) HOWN.out ?_ (fun k hk => by omega)) HWB.out.size
    iterate 11 (with_reducible refine Touch.set ?_ (by simp) _)
    exact Touch.refl _ _
  · repeat (first | with_reducible exact HWB.out.trans (HB1.out.mono HWB.out.size) | with_reducible refine Below.setCell ?_ (by simp) _)

set_option maxRecDepth 100000 in
set_option maxHeartbeats 20000000 in
theorem led_offline (p : Nat) (S : Drv) (F : Nat → Prop) (x : PStep) (L : SLay) (g : GCells) (w : World) (hk : x.kind = 11) (hx : x.Fits) (hd : Dr w p S F) (hF : ∀ k, F k → k < w.heap.size) (hS : S.Small) (B : Nat) (hB : B ≤ w.heap.size) (hxa : StepAt w B L x) :
    Calls Try.prog 36 #[.agg (gcells g), .pointer (some ⟨p, 0, none⟩), .agg (stepCells x L)] w fun e w' => 
      ∃ u, e = .returned (.tuple #[u, .agg (gcells ({ g with a := x.yes }))]) ∧ SaidAt w' w.heap.size u .none_ ∧ Below w.heap.size w w' := by
  obtain ⟨W, hW⟩ : ∃ W, W = ((((w.alloc (.cells (gcells g) 61)).alloc (.cells (stepCells x L) 69)).alloc (.cells zeroSaid 41)).alloc (.cells zeroGate 61)).alloc (.cells zeroSaid 41) := ⟨_, rfl⟩
  have HBX := Lib.hid (hW ▸ Box5.new w g x L)
  have HWB : Hid (Below w.heap.size w W) := Lib.hid (hW ▸ below5 w _ _ _ _ _)
  have HWS : Hid (W.heap.size = w.heap.size + 5) := Lib.hid (by rw [hW]; simp)
  unfold gcells stepCells zeroSaid zeroGate at hW
  have HW := Lib.hid hW
  have HX := Lib.hid hx
  have HD := Lib.hid hd
  have HF := Lib.hid hF
  have HS := Lib.hid hS
  have HXA := Lib.hid hxa
  have HCV : Hid (stepCells x L = #[.int .i64 x.kind, .string x.name, .string x.to, .slice L.pd x.data.length L.cd, .int .i64 x.a, .int .i64 x.b, .int .i64 x.c, .bool x.yes, .slice L.pp x.plan.length L.cp, .slice L.pr x.dirs.length L.cr, .slice L.pc x.cuts.length L.cc]) := Lib.hid rfl
  have HGV : Hid (gcells g = #[.bool g.d, .bool g.a, .slice g.pa g.pn g.pc, .int .i64 g.k, .int .i64 g.r, .bool g.laid, .int .i64 g.R, .int .i64 g.C, .int .i64 g.I]) := Lib.hid rfl
  have t9 : (x.kind == 9) = false := by simp [hk]
  have t10 : (x.kind == 10) = false := by simp [hk]
  have t11 : (x.kind == 11) = true := by simp [hk]
  have t12 : (x.kind == 12) = false := by simp [hk]
  have t13 : (x.kind == 13) = false := by simp [hk]
  have t14 : (x.kind == 14) = false := by simp [hk]
  have t15 : (x.kind == 15) = false := by simp [hk]
  have t16 : (x.kind == 16) = false := by simp [hk]
  have h1k : 1 ≤ x.kind := by omega
  have h8k : 8 < x.kind := by omega
  have h8n : ¬ x.kind ≤ 8 := by omega
  have HK := Lib.hid hk
  have HWL := Lib.hid HWS.out
  have hwl : w.heap.size + 1 + 1 + 1 + 1 < W.heap.size := by have := HWS.out; omega
  have hne3 : ¬ (w.heap.size + 1 + 1 = w.heap.size) := by omega
  have hne4 : ¬ (w.heap.size + 1 + 1 + 1 = w.heap.size) := by omega
  have hne5 : ¬ (w.heap.size + 1 + 1 + 1 + 1 = w.heap.size) := by omega
  have hne6 : ¬ (w.heap.size + 1 + 1 + 1 = w.heap.size + 1) := by omega
  have hne7 : ¬ (w.heap.size + 1 + 1 = w.heap.size + 1) := by omega
  have hne8 : ¬ (w.heap.size + 1 + 1 + 1 + 1 = w.heap.size + 1) := by omega
  have hne9 : ¬ (w.heap.size + 1 + 1 + 1 + 1 = w.heap.size + 1 + 1) := by omega
  obtain ⟨g2, hg2⟩ : ∃ g2, g2 = { g with a := x.yes } := ⟨_, rfl⟩
  have HG2 := Lib.hid hg2
  rw [← HG2.out]
  clear hk hx hd hF hS hxa hW hg2
  unfold gcells stepCells
  go_enter Try.func36, Try.ntmps36
  go_wp2_with fail
  rw [← HW.out]
  have kb0 : Blk W w.heap.size 61 (gcells g) := HBX.out.g
  have kx0 : Blk W (w.heap.size + 1) 69 (stepCells x L) := HBX.out.x
  have ks0 : Blk W (w.heap.size + 1 + 1 + 1 + 1) 41 zeroSaid := HBX.out.s
  have kb1 : Blk W.drew w.heap.size 61 (gcells g) := HBX.out.g
  have kx1 : Blk W.drew (w.heap.size + 1) 69 (stepCells x L) := HBX.out.x
  have ks1 : Blk W.drew (w.heap.size + 1 + 1 + 1 + 1) 41 zeroSaid := HBX.out.s
  have r0 : W.cell? ⟨w.heap.size + 1 + 1, 0, none⟩ = some (.int .i64 0) := HBX.out.r.cell 0
  have r1 : W.cell? ⟨w.heap.size + 1 + 1, 1, none⟩ = some (.slice none 0 0) := HBX.out.r.cell 1
  have r2 : W.cell? ⟨w.heap.size + 1 + 1, 2, none⟩ = some (.slice none 0 0) := HBX.out.r.cell 2
  have r3 : W.cell? ⟨w.heap.size + 1 + 1, 3, none⟩ = some (.slice none 0 0) := HBX.out.r.cell 3
  have r4 : W.cell? ⟨w.heap.size + 1 + 1, 4, none⟩ = some (.int .i64 0) := HBX.out.r.cell 4
  have r5 : W.cell? ⟨w.heap.size + 1 + 1, 5, none⟩ = some (.bool false) := HBX.out.r.cell 5
  have rf : ∀ i, W.frozen? ⟨w.heap.size + 1 + 1, i, none⟩ = false := HBX.out.r.frozen
  have q0 : W.cell? ⟨w.heap.size + 1 + 1 + 1, 0, none⟩ = some (.bool false) := HBX.out.q.cell 0
  have q1 : W.cell? ⟨w.heap.size + 1 + 1 + 1, 1, none⟩ = some (.bool false) := HBX.out.q.cell 1
  have q2 : W.cell? ⟨w.heap.size + 1 + 1 + 1, 2, none⟩ = some (.slice none 0 0) := HBX.out.q.cell 2
  have q3 : W.cell? ⟨w.heap.size + 1 + 1 + 1, 3, none⟩ = some (.int .i64 0) := HBX.out.q.cell 3
  have q4 : W.cell? ⟨w.heap.size + 1 + 1 + 1, 4, none⟩ = some (.int .i64 0) := HBX.out.q.cell 4
  have q5 : W.cell? ⟨w.heap.size + 1 + 1 + 1, 5, none⟩ = some (.bool false) := HBX.out.q.cell 5
  have q6 : W.cell? ⟨w.heap.size + 1 + 1 + 1, 6, none⟩ = some (.int .i64 0) := HBX.out.q.cell 6
  have q7 : W.cell? ⟨w.heap.size + 1 + 1 + 1, 7, none⟩ = some (.int .i64 0) := HBX.out.q.cell 7
  have q8 : W.cell? ⟨w.heap.size + 1 + 1 + 1, 8, none⟩ = some (.int .i64 0) := HBX.out.q.cell 8
  have qf : ∀ i, W.frozen? ⟨w.heap.size + 1 + 1 + 1, i, none⟩ = false := HBX.out.q.frozen
  go_region_held3 (fun w' => (w'.cell? ⟨w.heap.size, 0, none⟩ = some (.bool g.d) ∧ w'.cell? ⟨w.heap.size, 1, none⟩ = some (.bool g.a) ∧ w'.cell? ⟨w.heap.size, 2, none⟩ = some (.slice g.pa g.pn g.pc) ∧ w'.cell? ⟨w.heap.size, 3, none⟩ = some (.int .i64 g.k) ∧ w'.cell? ⟨w.heap.size, 4, none⟩ = some (.int .i64 g.r) ∧ w'.cell? ⟨w.heap.size, 5, none⟩ = some (.bool g.laid) ∧ w'.cell? ⟨w.heap.size, 6, none⟩ = some (.int .i64 g.R) ∧ w'.cell? ⟨w.heap.size, 7, none⟩ = some (.int .i64 g.C) ∧ w'.cell? ⟨w.heap.size, 8, none⟩ = some (.int .i64 g.I)) ∧ (w'.cell? ⟨w.heap.size + 1, 0, none⟩ = some (.int .i64 x.kind) ∧ w'.cell? ⟨w.heap.size + 1, 1, none⟩ = some (.string x.name) ∧ w'.cell? ⟨w.heap.size + 1, 2, none⟩ = some (.string x.to) ∧ w'.cell? ⟨w.heap.size + 1, 3, none⟩ = some (.slice L.pd x.data.length L.cd) ∧ w'.cell? ⟨w.heap.size + 1, 4, none⟩ = some (.int .i64 x.a) ∧ w'.cell? ⟨w.heap.size + 1, 5, none⟩ = some (.int .i64 x.b) ∧ w'.cell? ⟨w.heap.size + 1, 6, none⟩ = some (.int .i64 x.c) ∧ w'.cell? ⟨w.heap.size + 1, 7, none⟩ = some (.bool x.yes) ∧ w'.cell? ⟨w.heap.size + 1, 8, none⟩ = some (.slice L.pp x.plan.length L.cp) ∧ w'.cell? ⟨w.heap.size + 1, 9, none⟩ = some (.slice L.pr x.dirs.length L.cr) ∧ w'.cell? ⟨w.heap.size + 1, 10, none⟩ = some (.slice L.pc x.cuts.length L.cc)) ∧ w'.cell? ⟨w.heap.size + 1 + 1 + 1 + 1, 0, none⟩ = some (.int .i64 0) ∧ w'.cell? ⟨w.heap.size + 1 + 1 + 1 + 1, 1, none⟩ = some (.slice none 0 0) ∧ w'.cell? ⟨w.heap.size + 1 + 1 + 1 + 1, 2, none⟩ = some (.slice none 0 0) ∧ w'.cell? ⟨w.heap.size + 1 + 1 + 1 + 1, 3, none⟩ = some (.slice none 0 0) ∧ w'.cell? ⟨w.heap.size + 1 + 1 + 1 + 1, 4, none⟩ = some (.int .i64 0) ∧ w'.cell? ⟨w.heap.size + 1 + 1 + 1 + 1, 5, none⟩ = some (.bool false)) (first | exact ⟨gate_cells (by with_reducible assumption), step_cells' (by with_reducible assumption), said_zero (by with_reducible assumption)⟩ | go_keep)
    (first | (go_at_call 61; rw [← HGV.out]; refine (goffline_any g x.yes W.drew).mono ?_; rintro e v1 ⟨rfl, hb1⟩; rw [← HG2.out]; unfold gcells; have hb1' : Below W.heap.size W v1 := below_of_drew hb1; have kb2 := kb0.below hb1' kb0.lt; have kx2 := kx0.below hb1' kx0.lt; have ks2 := ks0.below hb1' ks0.lt; have HB1 := Lib.hid hb1'; have HBY := Lib.hid (HBX.out.below hb1'); have hwl1 := Nat.lt_of_lt_of_le hwl hb1'.size; clear hb1 hb1' r0 r1 r2 r3 r4 r5 rf q0 q1 q2 q3 q4 q5 q6 q7 q8 qf; have r0 : v1.cell? ⟨w.heap.size + 1 + 1, 0, none⟩ = some (.int .i64 0) := HBY.out.r.cell 0; have r1 : v1.cell? ⟨w.heap.size + 1 + 1, 1, none⟩ = some (.slice none 0 0) := HBY.out.r.cell 1; have r2 : v1.cell? ⟨w.heap.size + 1 + 1, 2, none⟩ = some (.slice none 0 0) := HBY.out.r.cell 2; have r3 : v1.cell? ⟨w.heap.size + 1 + 1, 3, none⟩ = some (.slice none 0 0) := HBY.out.r.cell 3; have r4 : v1.cell? ⟨w.heap.size + 1 + 1, 4, none⟩ = some (.int .i64 0) := HBY.out.r.cell 4; have r5 : v1.cell? ⟨w.heap.size + 1 + 1, 5, none⟩ = some (.bool false) := HBY.out.r.cell 5; have rf : ∀ i, v1.frozen? ⟨w.heap.size + 1 + 1, i, none⟩ = false := HBY.out.r.frozen; have q0 : v1.cell? ⟨w.heap.size + 1 + 1 + 1, 0, none⟩ = some (.bool false) := HBY.out.q.cell 0; have q1 : v1.cell? ⟨w.heap.size + 1 + 1 + 1, 1, none⟩ = some (.bool false) := HBY.out.q.cell 1; have q2 : v1.cell? ⟨w.heap.size + 1 + 1 + 1, 2, none⟩ = some (.slice none 0 0) := HBY.out.q.cell 2; have q3 : v1.cell? ⟨w.heap.size + 1 + 1 + 1, 3, none⟩ = some (.int .i64 0) := HBY.out.q.cell 3; have q4 : v1.cell? ⟨w.heap.size + 1 + 1 + 1, 4, none⟩ = some (.int .i64 0) := HBY.out.q.cell 4; have q5 : v1.cell? ⟨w.heap.size + 1 + 1 + 1, 5, none⟩ = some (.bool false) := HBY.out.q.cell 5; have q6 : v1.cell? ⟨w.heap.size + 1 + 1 + 1, 6, none⟩ = some (.int .i64 0) := HBY.out.q.cell 6; have q7 : v1.cell? ⟨w.heap.size + 1 + 1 + 1, 7, none⟩ = some (.int .i64 0) := HBY.out.q.cell 7; have q8 : v1.cell? ⟨w.heap.size + 1 + 1 + 1, 8, none⟩ = some (.int .i64 0) := HBY.out.q.cell 8; have qf : ∀ i, v1.frozen? ⟨w.heap.size + 1 + 1 + 1, i, none⟩ = false := HBY.out.q.frozen))
  go_wp2
  refine bodyPost_ret (v := .tuple #[.agg #[.int .i64 0, .slice none 0 0, .slice none 0 0, .slice none 0 0, .int .i64 0, .bool false], .agg #[.bool g2.d, .bool g2.a, .slice g2.pa g2.pn g2.pc, .int .i64 g2.k, .int .i64 g2.r, .bool g2.laid, .int .i64 g2.R, .int .i64 g2.C, .int .i64 g2.I]]) (by simp only [results, Try.results36]; go_simp) rfl ?_
  refine ⟨_, rfl, Said.code_at _ _ 0, ?_⟩
  have HBZ : Hid (Below w.heap.size w v1) := Lib.hid (HWB.out.trans (HB1.out.mono HWB.out.size))
  repeat (first | with_reducible exact HBZ.out | with_reducible refine Below.setCell ?_ (by show w.heap.size ≤ _; simp only []; omega) _ | with_reducible refine below_drewN ?_ _ | with_reducible refine below_drew1 ?_)

set_option maxRecDepth 100000 in
set_option maxHeartbeats 20000000 in
theorem led_power (p : Nat) (S : Drv) (F : Nat → Prop) (x : PStep) (L : SLay) (g : GCells) (w : World) (hk : x.kind = 15) (hx : x.Fits) (hd : Dr w p S F) (hF : ∀ k, F k → k < w.heap.size) (hS : S.Small) (B : Nat) (hB : B ≤ w.heap.size) (hxa : StepAt w B L x) :
    Calls Try.prog 36 #[.agg (gcells g), .pointer (some ⟨p, 0, none⟩), .agg (stepCells x L)] w fun e w' => 
      ∃ u, e = .returned (.tuple #[u, .agg (gcells ({ g with d := !x.yes }))]) ∧ SaidAt w' w.heap.size u .none_ ∧ Below w.heap.size w w' := by
  obtain ⟨W, hW⟩ : ∃ W, W = ((((w.alloc (.cells (gcells g) 61)).alloc (.cells (stepCells x L) 69)).alloc (.cells zeroSaid 41)).alloc (.cells zeroGate 61)).alloc (.cells zeroSaid 41) := ⟨_, rfl⟩
  have HBX := Lib.hid (hW ▸ Box5.new w g x L)
  have HWB : Hid (Below w.heap.size w W) := Lib.hid (hW ▸ below5 w _ _ _ _ _)
  have HWS : Hid (W.heap.size = w.heap.size + 5) := Lib.hid (by rw [hW]; simp)
  unfold gcells stepCells zeroSaid zeroGate at hW
  have HW := Lib.hid hW
  have HX := Lib.hid hx
  have HD := Lib.hid hd
  have HF := Lib.hid hF
  have HS := Lib.hid hS
  have HXA := Lib.hid hxa
  have HCV : Hid (stepCells x L = #[.int .i64 x.kind, .string x.name, .string x.to, .slice L.pd x.data.length L.cd, .int .i64 x.a, .int .i64 x.b, .int .i64 x.c, .bool x.yes, .slice L.pp x.plan.length L.cp, .slice L.pr x.dirs.length L.cr, .slice L.pc x.cuts.length L.cc]) := Lib.hid rfl
  have HGV : Hid (gcells g = #[.bool g.d, .bool g.a, .slice g.pa g.pn g.pc, .int .i64 g.k, .int .i64 g.r, .bool g.laid, .int .i64 g.R, .int .i64 g.C, .int .i64 g.I]) := Lib.hid rfl
  have t9 : (x.kind == 9) = false := by simp [hk]
  have t10 : (x.kind == 10) = false := by simp [hk]
  have t11 : (x.kind == 11) = false := by simp [hk]
  have t12 : (x.kind == 12) = false := by simp [hk]
  have t13 : (x.kind == 13) = false := by simp [hk]
  have t14 : (x.kind == 14) = false := by simp [hk]
  have t15 : (x.kind == 15) = true := by simp [hk]
  have t16 : (x.kind == 16) = false := by simp [hk]
  have h1k : 1 ≤ x.kind := by omega
  have h8k : 8 < x.kind := by omega
  have h8n : ¬ x.kind ≤ 8 := by omega
  have HK := Lib.hid hk
  have HWL := Lib.hid HWS.out
  have hwl : w.heap.size + 1 + 1 + 1 + 1 < W.heap.size := by have := HWS.out; omega
  have hne3 : ¬ (w.heap.size + 1 + 1 = w.heap.size) := by omega
  have hne4 : ¬ (w.heap.size + 1 + 1 + 1 = w.heap.size) := by omega
  have hne5 : ¬ (w.heap.size + 1 + 1 + 1 + 1 = w.heap.size) := by omega
  have hne6 : ¬ (w.heap.size + 1 + 1 + 1 = w.heap.size + 1) := by omega
  have hne7 : ¬ (w.heap.size + 1 + 1 = w.heap.size + 1) := by omega
  have hne8 : ¬ (w.heap.size + 1 + 1 + 1 + 1 = w.heap.size + 1) := by omega
  have hne9 : ¬ (w.heap.size + 1 + 1 + 1 + 1 = w.heap.size + 1 + 1) := by omega
  obtain ⟨g2, hg2⟩ : ∃ g2, g2 = { g with d := !x.yes } := ⟨_, rfl⟩
  have HG2 := Lib.hid hg2
  rw [← HG2.out]
  clear hk hx hd hF hS hxa hW hg2
  unfold gcells stepCells
  go_enter Try.func36, Try.ntmps36
  go_wp2_with fail
  rw [← HW.out]
  have kb0 : Blk W w.heap.size 61 (gcells g) := HBX.out.g
  have kx0 : Blk W (w.heap.size + 1) 69 (stepCells x L) := HBX.out.x
  have ks0 : Blk W (w.heap.size + 1 + 1 + 1 + 1) 41 zeroSaid := HBX.out.s
  have kb1 : Blk W.drew w.heap.size 61 (gcells g) := HBX.out.g
  have kx1 : Blk W.drew (w.heap.size + 1) 69 (stepCells x L) := HBX.out.x
  have ks1 : Blk W.drew (w.heap.size + 1 + 1 + 1 + 1) 41 zeroSaid := HBX.out.s
  have r0 : W.cell? ⟨w.heap.size + 1 + 1, 0, none⟩ = some (.int .i64 0) := HBX.out.r.cell 0
  have r1 : W.cell? ⟨w.heap.size + 1 + 1, 1, none⟩ = some (.slice none 0 0) := HBX.out.r.cell 1
  have r2 : W.cell? ⟨w.heap.size + 1 + 1, 2, none⟩ = some (.slice none 0 0) := HBX.out.r.cell 2
  have r3 : W.cell? ⟨w.heap.size + 1 + 1, 3, none⟩ = some (.slice none 0 0) := HBX.out.r.cell 3
  have r4 : W.cell? ⟨w.heap.size + 1 + 1, 4, none⟩ = some (.int .i64 0) := HBX.out.r.cell 4
  have r5 : W.cell? ⟨w.heap.size + 1 + 1, 5, none⟩ = some (.bool false) := HBX.out.r.cell 5
  have rf : ∀ i, W.frozen? ⟨w.heap.size + 1 + 1, i, none⟩ = false := HBX.out.r.frozen
  have q0 : W.cell? ⟨w.heap.size + 1 + 1 + 1, 0, none⟩ = some (.bool false) := HBX.out.q.cell 0
  have q1 : W.cell? ⟨w.heap.size + 1 + 1 + 1, 1, none⟩ = some (.bool false) := HBX.out.q.cell 1
  have q2 : W.cell? ⟨w.heap.size + 1 + 1 + 1, 2, none⟩ = some (.slice none 0 0) := HBX.out.q.cell 2
  have q3 : W.cell? ⟨w.heap.size + 1 + 1 + 1, 3, none⟩ = some (.int .i64 0) := HBX.out.q.cell 3
  have q4 : W.cell? ⟨w.heap.size + 1 + 1 + 1, 4, none⟩ = some (.int .i64 0) := HBX.out.q.cell 4
  have q5 : W.cell? ⟨w.heap.size + 1 + 1 + 1, 5, none⟩ = some (.bool false) := HBX.out.q.cell 5
  have q6 : W.cell? ⟨w.heap.size + 1 + 1 + 1, 6, none⟩ = some (.int .i64 0) := HBX.out.q.cell 6
  have q7 : W.cell? ⟨w.heap.size + 1 + 1 + 1, 7, none⟩ = some (.int .i64 0) := HBX.out.q.cell 7
  have q8 : W.cell? ⟨w.heap.size + 1 + 1 + 1, 8, none⟩ = some (.int .i64 0) := HBX.out.q.cell 8
  have qf : ∀ i, W.frozen? ⟨w.heap.size + 1 + 1 + 1, i, none⟩ = false := HBX.out.q.frozen
  go_region_held3 (fun w' => (w'.cell? ⟨w.heap.size, 0, none⟩ = some (.bool g.d) ∧ w'.cell? ⟨w.heap.size, 1, none⟩ = some (.bool g.a) ∧ w'.cell? ⟨w.heap.size, 2, none⟩ = some (.slice g.pa g.pn g.pc) ∧ w'.cell? ⟨w.heap.size, 3, none⟩ = some (.int .i64 g.k) ∧ w'.cell? ⟨w.heap.size, 4, none⟩ = some (.int .i64 g.r) ∧ w'.cell? ⟨w.heap.size, 5, none⟩ = some (.bool g.laid) ∧ w'.cell? ⟨w.heap.size, 6, none⟩ = some (.int .i64 g.R) ∧ w'.cell? ⟨w.heap.size, 7, none⟩ = some (.int .i64 g.C) ∧ w'.cell? ⟨w.heap.size, 8, none⟩ = some (.int .i64 g.I)) ∧ (w'.cell? ⟨w.heap.size + 1, 0, none⟩ = some (.int .i64 x.kind) ∧ w'.cell? ⟨w.heap.size + 1, 1, none⟩ = some (.string x.name) ∧ w'.cell? ⟨w.heap.size + 1, 2, none⟩ = some (.string x.to) ∧ w'.cell? ⟨w.heap.size + 1, 3, none⟩ = some (.slice L.pd x.data.length L.cd) ∧ w'.cell? ⟨w.heap.size + 1, 4, none⟩ = some (.int .i64 x.a) ∧ w'.cell? ⟨w.heap.size + 1, 5, none⟩ = some (.int .i64 x.b) ∧ w'.cell? ⟨w.heap.size + 1, 6, none⟩ = some (.int .i64 x.c) ∧ w'.cell? ⟨w.heap.size + 1, 7, none⟩ = some (.bool x.yes) ∧ w'.cell? ⟨w.heap.size + 1, 8, none⟩ = some (.slice L.pp x.plan.length L.cp) ∧ w'.cell? ⟨w.heap.size + 1, 9, none⟩ = some (.slice L.pr x.dirs.length L.cr) ∧ w'.cell? ⟨w.heap.size + 1, 10, none⟩ = some (.slice L.pc x.cuts.length L.cc)) ∧ w'.cell? ⟨w.heap.size + 1 + 1 + 1 + 1, 0, none⟩ = some (.int .i64 0) ∧ w'.cell? ⟨w.heap.size + 1 + 1 + 1 + 1, 1, none⟩ = some (.slice none 0 0) ∧ w'.cell? ⟨w.heap.size + 1 + 1 + 1 + 1, 2, none⟩ = some (.slice none 0 0) ∧ w'.cell? ⟨w.heap.size + 1 + 1 + 1 + 1, 3, none⟩ = some (.slice none 0 0) ∧ w'.cell? ⟨w.heap.size + 1 + 1 + 1 + 1, 4, none⟩ = some (.int .i64 0) ∧ w'.cell? ⟨w.heap.size + 1 + 1 + 1 + 1, 5, none⟩ = some (.bool false)) (first | exact ⟨gate_cells (by with_reducible assumption), step_cells' (by with_reducible assumption), said_zero (by with_reducible assumption)⟩ | go_keep)
    (first | (go_at_call 64; rw [← HGV.out]; refine (gpower_any g x.yes W.drew).mono ?_; rintro e v1 ⟨rfl, hb1⟩; rw [← HG2.out]; unfold gcells; have hb1' : Below W.heap.size W v1 := below_of_drew hb1; have kb2 := kb0.below hb1' kb0.lt; have kx2 := kx0.below hb1' kx0.lt; have ks2 := ks0.below hb1' ks0.lt; have HB1 := Lib.hid hb1'; have HBY := Lib.hid (HBX.out.below hb1'); have hwl1 := Nat.lt_of_lt_of_le hwl hb1'.size; clear hb1 hb1' r0 r1 r2 r3 r4 r5 rf q0 q1 q2 q3 q4 q5 q6 q7 q8 qf; have r0 : v1.cell? ⟨w.heap.size + 1 + 1, 0, none⟩ = some (.int .i64 0) := HBY.out.r.cell 0; have r1 : v1.cell? ⟨w.heap.size + 1 + 1, 1, none⟩ = some (.slice none 0 0) := HBY.out.r.cell 1; have r2 : v1.cell? ⟨w.heap.size + 1 + 1, 2, none⟩ = some (.slice none 0 0) := HBY.out.r.cell 2; have r3 : v1.cell? ⟨w.heap.size + 1 + 1, 3, none⟩ = some (.slice none 0 0) := HBY.out.r.cell 3; have r4 : v1.cell? ⟨w.heap.size + 1 + 1, 4, none⟩ = some (.int .i64 0) := HBY.out.r.cell 4; have r5 : v1.cell? ⟨w.heap.size + 1 + 1, 5, none⟩ = some (.bool false) := HBY.out.r.cell 5; have rf : ∀ i, v1.frozen? ⟨w.heap.size + 1 + 1, i, none⟩ = false := HBY.out.r.frozen; have q0 : v1.cell? ⟨w.heap.size + 1 + 1 + 1, 0, none⟩ = some (.bool false) := HBY.out.q.cell 0; have q1 : v1.cell? ⟨w.heap.size + 1 + 1 + 1, 1, none⟩ = some (.bool false) := HBY.out.q.cell 1; have q2 : v1.cell? ⟨w.heap.size + 1 + 1 + 1, 2, none⟩ = some (.slice none 0 0) := HBY.out.q.cell 2; have q3 : v1.cell? ⟨w.heap.size + 1 + 1 + 1, 3, none⟩ = some (.int .i64 0) := HBY.out.q.cell 3; have q4 : v1.cell? ⟨w.heap.size + 1 + 1 + 1, 4, none⟩ = some (.int .i64 0) := HBY.out.q.cell 4; have q5 : v1.cell? ⟨w.heap.size + 1 + 1 + 1, 5, none⟩ = some (.bool false) := HBY.out.q.cell 5; have q6 : v1.cell? ⟨w.heap.size + 1 + 1 + 1, 6, none⟩ = some (.int .i64 0) := HBY.out.q.cell 6; have q7 : v1.cell? ⟨w.heap.size + 1 + 1 + 1, 7, none⟩ = some (.int .i64 0) := HBY.out.q.cell 7; have q8 : v1.cell? ⟨w.heap.size + 1 + 1 + 1, 8, none⟩ = some (.int .i64 0) := HBY.out.q.cell 8; have qf : ∀ i, v1.frozen? ⟨w.heap.size + 1 + 1 + 1, i, none⟩ = false := HBY.out.q.frozen))
  go_wp2
  refine bodyPost_ret (v := .tuple #[.agg #[.int .i64 0, .slice none 0 0, .slice none 0 0, .slice none 0 0, .int .i64 0, .bool false], .agg #[.bool g2.d, .bool g2.a, .slice g2.pa g2.pn g2.pc, .int .i64 g2.k, .int .i64 g2.r, .bool g2.laid, .int .i64 g2.R, .int .i64 g2.C, .int .i64 g2.I]]) (by simp only [results, Try.results36]; go_simp) rfl ?_
  refine ⟨_, rfl, Said.code_at _ _ 0, ?_⟩
  have HBZ : Hid (Below w.heap.size w v1) := Lib.hid (HWB.out.trans (HB1.out.mono HWB.out.size))
  repeat (first | with_reducible exact HBZ.out | with_reducible refine Below.setCell ?_ (by show w.heap.size ≤ _; simp only []; omega) _ | with_reducible refine below_drewN ?_ _ | with_reducible refine below_drew1 ?_)

set_option maxRecDepth 100000 in
set_option maxHeartbeats 20000000 in
theorem led_fuse (p : Nat) (S : Drv) (F : Nat → Prop) (x : PStep) (L : SLay) (g : GCells) (w : World) (hk : x.kind = 12) (hx : x.Fits) (hd : Dr w p S F) (hF : ∀ k, F k → k < w.heap.size) (hS : S.Small) (B : Nat) (hB : B ≤ w.heap.size) (hxa : StepAt w B L x) :
    Calls Try.prog 36 #[.agg (gcells g), .pointer (some ⟨p, 0, none⟩), .agg (stepCells x L)] w fun e w' => 
      ∃ u, e = .returned (.tuple #[u, .agg (gcells ({ g with laid := decide (0 ≤ x.a), R := x.a, C := x.b, I := x.c }))]) ∧ SaidAt w' w.heap.size u .none_ ∧ Below w.heap.size w w' := by
  obtain ⟨W, hW⟩ : ∃ W, W = ((((w.alloc (.cells (gcells g) 61)).alloc (.cells (stepCells x L) 69)).alloc (.cells zeroSaid 41)).alloc (.cells zeroGate 61)).alloc (.cells zeroSaid 41) := ⟨_, rfl⟩
  have HBX := Lib.hid (hW ▸ Box5.new w g x L)
  have HWB : Hid (Below w.heap.size w W) := Lib.hid (hW ▸ below5 w _ _ _ _ _)
  have HWS : Hid (W.heap.size = w.heap.size + 5) := Lib.hid (by rw [hW]; simp)
  unfold gcells stepCells zeroSaid zeroGate at hW
  have HW := Lib.hid hW
  have HX := Lib.hid hx
  have HD := Lib.hid hd
  have HF := Lib.hid hF
  have HS := Lib.hid hS
  have HXA := Lib.hid hxa
  have HCV : Hid (stepCells x L = #[.int .i64 x.kind, .string x.name, .string x.to, .slice L.pd x.data.length L.cd, .int .i64 x.a, .int .i64 x.b, .int .i64 x.c, .bool x.yes, .slice L.pp x.plan.length L.cp, .slice L.pr x.dirs.length L.cr, .slice L.pc x.cuts.length L.cc]) := Lib.hid rfl
  have HGV : Hid (gcells g = #[.bool g.d, .bool g.a, .slice g.pa g.pn g.pc, .int .i64 g.k, .int .i64 g.r, .bool g.laid, .int .i64 g.R, .int .i64 g.C, .int .i64 g.I]) := Lib.hid rfl
  have t9 : (x.kind == 9) = false := by simp [hk]
  have t10 : (x.kind == 10) = false := by simp [hk]
  have t11 : (x.kind == 11) = false := by simp [hk]
  have t12 : (x.kind == 12) = true := by simp [hk]
  have t13 : (x.kind == 13) = false := by simp [hk]
  have t14 : (x.kind == 14) = false := by simp [hk]
  have t15 : (x.kind == 15) = false := by simp [hk]
  have t16 : (x.kind == 16) = false := by simp [hk]
  have h1k : 1 ≤ x.kind := by omega
  have h8k : 8 < x.kind := by omega
  have h8n : ¬ x.kind ≤ 8 := by omega
  have HK := Lib.hid hk
  have HWL := Lib.hid HWS.out
  have hwl : w.heap.size + 1 + 1 + 1 + 1 < W.heap.size := by have := HWS.out; omega
  have hne3 : ¬ (w.heap.size + 1 + 1 = w.heap.size) := by omega
  have hne4 : ¬ (w.heap.size + 1 + 1 + 1 = w.heap.size) := by omega
  have hne5 : ¬ (w.heap.size + 1 + 1 + 1 + 1 = w.heap.size) := by omega
  have hne6 : ¬ (w.heap.size + 1 + 1 + 1 = w.heap.size + 1) := by omega
  have hne7 : ¬ (w.heap.size + 1 + 1 = w.heap.size + 1) := by omega
  have hne8 : ¬ (w.heap.size + 1 + 1 + 1 + 1 = w.heap.size + 1) := by omega
  have hne9 : ¬ (w.heap.size + 1 + 1 + 1 + 1 = w.heap.size + 1 + 1) := by omega
  obtain ⟨g2, hg2⟩ : ∃ g2, g2 = { g with laid := decide (0 ≤ x.a), R := x.a, C := x.b, I := x.c } := ⟨_, rfl⟩
  have HG2 := Lib.hid hg2
  rw [← HG2.out]
  clear hk hx hd hF hS hxa hW hg2
  unfold gcells stepCells
  go_enter Try.func36, Try.ntmps36
  go_wp2_with fail
  rw [← HW.out]
  have kb0 : Blk W w.heap.size 61 (gcells g) := HBX.out.g
  have kx0 : Blk W (w.heap.size + 1) 69 (stepCells x L) := HBX.out.x
  have ks0 : Blk W (w.heap.size + 1 + 1 + 1 + 1) 41 zeroSaid := HBX.out.s
  have kb1 : Blk W.drew w.heap.size 61 (gcells g) := HBX.out.g
  have kx1 : Blk W.drew (w.heap.size + 1) 69 (stepCells x L) := HBX.out.x
  have ks1 : Blk W.drew (w.heap.size + 1 + 1 + 1 + 1) 41 zeroSaid := HBX.out.s
  have r0 : W.cell? ⟨w.heap.size + 1 + 1, 0, none⟩ = some (.int .i64 0) := HBX.out.r.cell 0
  have r1 : W.cell? ⟨w.heap.size + 1 + 1, 1, none⟩ = some (.slice none 0 0) := HBX.out.r.cell 1
  have r2 : W.cell? ⟨w.heap.size + 1 + 1, 2, none⟩ = some (.slice none 0 0) := HBX.out.r.cell 2
  have r3 : W.cell? ⟨w.heap.size + 1 + 1, 3, none⟩ = some (.slice none 0 0) := HBX.out.r.cell 3
  have r4 : W.cell? ⟨w.heap.size + 1 + 1, 4, none⟩ = some (.int .i64 0) := HBX.out.r.cell 4
  have r5 : W.cell? ⟨w.heap.size + 1 + 1, 5, none⟩ = some (.bool false) := HBX.out.r.cell 5
  have rf : ∀ i, W.frozen? ⟨w.heap.size + 1 + 1, i, none⟩ = false := HBX.out.r.frozen
  have q0 : W.cell? ⟨w.heap.size + 1 + 1 + 1, 0, none⟩ = some (.bool false) := HBX.out.q.cell 0
  have q1 : W.cell? ⟨w.heap.size + 1 + 1 + 1, 1, none⟩ = some (.bool false) := HBX.out.q.cell 1
  have q2 : W.cell? ⟨w.heap.size + 1 + 1 + 1, 2, none⟩ = some (.slice none 0 0) := HBX.out.q.cell 2
  have q3 : W.cell? ⟨w.heap.size + 1 + 1 + 1, 3, none⟩ = some (.int .i64 0) := HBX.out.q.cell 3
  have q4 : W.cell? ⟨w.heap.size + 1 + 1 + 1, 4, none⟩ = some (.int .i64 0) := HBX.out.q.cell 4
  have q5 : W.cell? ⟨w.heap.size + 1 + 1 + 1, 5, none⟩ = some (.bool false) := HBX.out.q.cell 5
  have q6 : W.cell? ⟨w.heap.size + 1 + 1 + 1, 6, none⟩ = some (.int .i64 0) := HBX.out.q.cell 6
  have q7 : W.cell? ⟨w.heap.size + 1 + 1 + 1, 7, none⟩ = some (.int .i64 0) := HBX.out.q.cell 7
  have q8 : W.cell? ⟨w.heap.size + 1 + 1 + 1, 8, none⟩ = some (.int .i64 0) := HBX.out.q.cell 8
  have qf : ∀ i, W.frozen? ⟨w.heap.size + 1 + 1 + 1, i, none⟩ = false := HBX.out.q.frozen
  go_region_held3 (fun w' => (w'.cell? ⟨w.heap.size, 0, none⟩ = some (.bool g.d) ∧ w'.cell? ⟨w.heap.size, 1, none⟩ = some (.bool g.a) ∧ w'.cell? ⟨w.heap.size, 2, none⟩ = some (.slice g.pa g.pn g.pc) ∧ w'.cell? ⟨w.heap.size, 3, none⟩ = some (.int .i64 g.k) ∧ w'.cell? ⟨w.heap.size, 4, none⟩ = some (.int .i64 g.r) ∧ w'.cell? ⟨w.heap.size, 5, none⟩ = some (.bool g.laid) ∧ w'.cell? ⟨w.heap.size, 6, none⟩ = some (.int .i64 g.R) ∧ w'.cell? ⟨w.heap.size, 7, none⟩ = some (.int .i64 g.C) ∧ w'.cell? ⟨w.heap.size, 8, none⟩ = some (.int .i64 g.I)) ∧ (w'.cell? ⟨w.heap.size + 1, 0, none⟩ = some (.int .i64 x.kind) ∧ w'.cell? ⟨w.heap.size + 1, 1, none⟩ = some (.string x.name) ∧ w'.cell? ⟨w.heap.size + 1, 2, none⟩ = some (.string x.to) ∧ w'.cell? ⟨w.heap.size + 1, 3, none⟩ = some (.slice L.pd x.data.length L.cd) ∧ w'.cell? ⟨w.heap.size + 1, 4, none⟩ = some (.int .i64 x.a) ∧ w'.cell? ⟨w.heap.size + 1, 5, none⟩ = some (.int .i64 x.b) ∧ w'.cell? ⟨w.heap.size + 1, 6, none⟩ = some (.int .i64 x.c) ∧ w'.cell? ⟨w.heap.size + 1, 7, none⟩ = some (.bool x.yes) ∧ w'.cell? ⟨w.heap.size + 1, 8, none⟩ = some (.slice L.pp x.plan.length L.cp) ∧ w'.cell? ⟨w.heap.size + 1, 9, none⟩ = some (.slice L.pr x.dirs.length L.cr) ∧ w'.cell? ⟨w.heap.size + 1, 10, none⟩ = some (.slice L.pc x.cuts.length L.cc)) ∧ w'.cell? ⟨w.heap.size + 1 + 1 + 1 + 1, 0, none⟩ = some (.int .i64 0) ∧ w'.cell? ⟨w.heap.size + 1 + 1 + 1 + 1, 1, none⟩ = some (.slice none 0 0) ∧ w'.cell? ⟨w.heap.size + 1 + 1 + 1 + 1, 2, none⟩ = some (.slice none 0 0) ∧ w'.cell? ⟨w.heap.size + 1 + 1 + 1 + 1, 3, none⟩ = some (.slice none 0 0) ∧ w'.cell? ⟨w.heap.size + 1 + 1 + 1 + 1, 4, none⟩ = some (.int .i64 0) ∧ w'.cell? ⟨w.heap.size + 1 + 1 + 1 + 1, 5, none⟩ = some (.bool false)) (first | exact ⟨gate_cells (by with_reducible assumption), step_cells' (by with_reducible assumption), said_zero (by with_reducible assumption)⟩ | go_keep)
    (first | (go_at_call 62; rw [← HGV.out]; refine (gfuse_any g x.a x.b x.c W.drew).mono ?_; rintro e v1 ⟨rfl, hb1⟩; rw [← HG2.out]; unfold gcells; have hb1' : Below W.heap.size W v1 := below_of_drew hb1; have kb2 := kb0.below hb1' kb0.lt; have kx2 := kx0.below hb1' kx0.lt; have ks2 := ks0.below hb1' ks0.lt; have HB1 := Lib.hid hb1'; have HBY := Lib.hid (HBX.out.below hb1'); have hwl1 := Nat.lt_of_lt_of_le hwl hb1'.size; clear hb1 hb1' r0 r1 r2 r3 r4 r5 rf q0 q1 q2 q3 q4 q5 q6 q7 q8 qf; have r0 : v1.cell? ⟨w.heap.size + 1 + 1, 0, none⟩ = some (.int .i64 0) := HBY.out.r.cell 0; have r1 : v1.cell? ⟨w.heap.size + 1 + 1, 1, none⟩ = some (.slice none 0 0) := HBY.out.r.cell 1; have r2 : v1.cell? ⟨w.heap.size + 1 + 1, 2, none⟩ = some (.slice none 0 0) := HBY.out.r.cell 2; have r3 : v1.cell? ⟨w.heap.size + 1 + 1, 3, none⟩ = some (.slice none 0 0) := HBY.out.r.cell 3; have r4 : v1.cell? ⟨w.heap.size + 1 + 1, 4, none⟩ = some (.int .i64 0) := HBY.out.r.cell 4; have r5 : v1.cell? ⟨w.heap.size + 1 + 1, 5, none⟩ = some (.bool false) := HBY.out.r.cell 5; have rf : ∀ i, v1.frozen? ⟨w.heap.size + 1 + 1, i, none⟩ = false := HBY.out.r.frozen; have q0 : v1.cell? ⟨w.heap.size + 1 + 1 + 1, 0, none⟩ = some (.bool false) := HBY.out.q.cell 0; have q1 : v1.cell? ⟨w.heap.size + 1 + 1 + 1, 1, none⟩ = some (.bool false) := HBY.out.q.cell 1; have q2 : v1.cell? ⟨w.heap.size + 1 + 1 + 1, 2, none⟩ = some (.slice none 0 0) := HBY.out.q.cell 2; have q3 : v1.cell? ⟨w.heap.size + 1 + 1 + 1, 3, none⟩ = some (.int .i64 0) := HBY.out.q.cell 3; have q4 : v1.cell? ⟨w.heap.size + 1 + 1 + 1, 4, none⟩ = some (.int .i64 0) := HBY.out.q.cell 4; have q5 : v1.cell? ⟨w.heap.size + 1 + 1 + 1, 5, none⟩ = some (.bool false) := HBY.out.q.cell 5; have q6 : v1.cell? ⟨w.heap.size + 1 + 1 + 1, 6, none⟩ = some (.int .i64 0) := HBY.out.q.cell 6; have q7 : v1.cell? ⟨w.heap.size + 1 + 1 + 1, 7, none⟩ = some (.int .i64 0) := HBY.out.q.cell 7; have q8 : v1.cell? ⟨w.heap.size + 1 + 1 + 1, 8, none⟩ = some (.int .i64 0) := HBY.out.q.cell 8; have qf : ∀ i, v1.frozen? ⟨w.heap.size + 1 + 1 + 1, i, none⟩ = false := HBY.out.q.frozen))
  go_wp2
  refine bodyPost_ret (v := .tuple #[.agg #[.int .i64 0, .slice none 0 0, .slice none 0 0, .slice none 0 0, .int .i64 0, .bool false], .agg #[.bool g2.d, .bool g2.a, .slice g2.pa g2.pn g2.pc, .int .i64 g2.k, .int .i64 g2.r, .bool g2.laid, .int .i64 g2.R, .int .i64 g2.C, .int .i64 g2.I]]) (by simp only [results, Try.results36]; go_simp) rfl ?_
  refine ⟨_, rfl, Said.code_at _ _ 0, ?_⟩
  have HBZ : Hid (Below w.heap.size w v1) := Lib.hid (HWB.out.trans (HB1.out.mono HWB.out.size))
  repeat (first | with_reducible exact HBZ.out | with_reducible refine Below.setCell ?_ (by show w.heap.size ≤ _; simp only []; omega) _ | with_reducible refine below_drewN ?_ _ | with_reducible refine below_drew1 ?_)

set_option maxRecDepth 100000 in
set_option maxHeartbeats 20000000 in
theorem led_rest (p : Nat) (S : Drv) (F : Nat → Prop) (x : PStep) (L : SLay) (g : GCells) (w : World) (hk : x.kind = 14) (hx : x.Fits) (hd : Dr w p S F) (hF : ∀ k, F k → k < w.heap.size) (hS : S.Small) (B : Nat) (hB : B ≤ w.heap.size) (hxa : StepAt w B L x) (hrb : g.laid = true → 0 ≤ g.R ∧ g.R ≤ 9223372036854775807) :
    Calls Try.prog 36 #[.agg (gcells g), .pointer (some ⟨p, 0, none⟩), .agg (stepCells x L)] w fun e w' => 
      ∃ u, e = .returned (.tuple #[u, .agg (gcells (g.rest x.yes))]) ∧ SaidAt w' w.heap.size u .none_ ∧ Below w.heap.size w w' := by
  obtain ⟨W, hW⟩ : ∃ W, W = ((((w.alloc (.cells (gcells g) 61)).alloc (.cells (stepCells x L) 69)).alloc (.cells zeroSaid 41)).alloc (.cells zeroGate 61)).alloc (.cells zeroSaid 41) := ⟨_, rfl⟩
  have HBX := Lib.hid (hW ▸ Box5.new w g x L)
  have HWB : Hid (Below w.heap.size w W) := Lib.hid (hW ▸ below5 w _ _ _ _ _)
  have HWS : Hid (W.heap.size = w.heap.size + 5) := Lib.hid (by rw [hW]; simp)
  unfold gcells stepCells zeroSaid zeroGate at hW
  have HW := Lib.hid hW
  have HX := Lib.hid hx
  have HD := Lib.hid hd
  have HF := Lib.hid hF
  have HS := Lib.hid hS
  have HXA := Lib.hid hxa
  have HCV : Hid (stepCells x L = #[.int .i64 x.kind, .string x.name, .string x.to, .slice L.pd x.data.length L.cd, .int .i64 x.a, .int .i64 x.b, .int .i64 x.c, .bool x.yes, .slice L.pp x.plan.length L.cp, .slice L.pr x.dirs.length L.cr, .slice L.pc x.cuts.length L.cc]) := Lib.hid rfl
  have HGV : Hid (gcells g = #[.bool g.d, .bool g.a, .slice g.pa g.pn g.pc, .int .i64 g.k, .int .i64 g.r, .bool g.laid, .int .i64 g.R, .int .i64 g.C, .int .i64 g.I]) := Lib.hid rfl
  have t9 : (x.kind == 9) = false := by simp [hk]
  have t10 : (x.kind == 10) = false := by simp [hk]
  have t11 : (x.kind == 11) = false := by simp [hk]
  have t12 : (x.kind == 12) = false := by simp [hk]
  have t13 : (x.kind == 13) = false := by simp [hk]
  have t14 : (x.kind == 14) = true := by simp [hk]
  have t15 : (x.kind == 15) = false := by simp [hk]
  have t16 : (x.kind == 16) = false := by simp [hk]
  have h1k : 1 ≤ x.kind := by omega
  have h8k : 8 < x.kind := by omega
  have h8n : ¬ x.kind ≤ 8 := by omega
  have HK := Lib.hid hk
  have HWL := Lib.hid HWS.out
  have hwl : w.heap.size + 1 + 1 + 1 + 1 < W.heap.size := by have := HWS.out; omega
  have hne3 : ¬ (w.heap.size + 1 + 1 = w.heap.size) := by omega
  have hne4 : ¬ (w.heap.size + 1 + 1 + 1 = w.heap.size) := by omega
  have hne5 : ¬ (w.heap.size + 1 + 1 + 1 + 1 = w.heap.size) := by omega
  have hne6 : ¬ (w.heap.size + 1 + 1 + 1 = w.heap.size + 1) := by omega
  have hne7 : ¬ (w.heap.size + 1 + 1 = w.heap.size + 1) := by omega
  have hne8 : ¬ (w.heap.size + 1 + 1 + 1 + 1 = w.heap.size + 1) := by omega
  have hne9 : ¬ (w.heap.size + 1 + 1 + 1 + 1 = w.heap.size + 1 + 1) := by omega
  have HRB := Lib.hid hrb
  obtain ⟨g2, hg2⟩ : ∃ g2, g2 = g.rest x.yes := ⟨_, rfl⟩
  have HG2 := Lib.hid hg2
  rw [← HG2.out]
  clear hk hx hd hF hS hxa hW hg2 hrb
  unfold gcells stepCells
  go_enter Try.func36, Try.ntmps36
  go_wp2_with fail
  rw [← HW.out]
  have kb0 : Blk W w.heap.size 61 (gcells g) := HBX.out.g
  have kx0 : Blk W (w.heap.size + 1) 69 (stepCells x L) := HBX.out.x
  have ks0 : Blk W (w.heap.size + 1 + 1 + 1 + 1) 41 zeroSaid := HBX.out.s
  have kb1 : Blk W.drew w.heap.size 61 (gcells g) := HBX.out.g
  have kx1 : Blk W.drew (w.heap.size + 1) 69 (stepCells x L) := HBX.out.x
  have ks1 : Blk W.drew (w.heap.size + 1 + 1 + 1 + 1) 41 zeroSaid := HBX.out.s
  have r0 : W.cell? ⟨w.heap.size + 1 + 1, 0, none⟩ = some (.int .i64 0) := HBX.out.r.cell 0
  have r1 : W.cell? ⟨w.heap.size + 1 + 1, 1, none⟩ = some (.slice none 0 0) := HBX.out.r.cell 1
  have r2 : W.cell? ⟨w.heap.size + 1 + 1, 2, none⟩ = some (.slice none 0 0) := HBX.out.r.cell 2
  have r3 : W.cell? ⟨w.heap.size + 1 + 1, 3, none⟩ = some (.slice none 0 0) := HBX.out.r.cell 3
  have r4 : W.cell? ⟨w.heap.size + 1 + 1, 4, none⟩ = some (.int .i64 0) := HBX.out.r.cell 4
  have r5 : W.cell? ⟨w.heap.size + 1 + 1, 5, none⟩ = some (.bool false) := HBX.out.r.cell 5
  have rf : ∀ i, W.frozen? ⟨w.heap.size + 1 + 1, i, none⟩ = false := HBX.out.r.frozen
  have q0 : W.cell? ⟨w.heap.size + 1 + 1 + 1, 0, none⟩ = some (.bool false) := HBX.out.q.cell 0
  have q1 : W.cell? ⟨w.heap.size + 1 + 1 + 1, 1, none⟩ = some (.bool false) := HBX.out.q.cell 1
  have q2 : W.cell? ⟨w.heap.size + 1 + 1 + 1, 2, none⟩ = some (.slice none 0 0) := HBX.out.q.cell 2
  have q3 : W.cell? ⟨w.heap.size + 1 + 1 + 1, 3, none⟩ = some (.int .i64 0) := HBX.out.q.cell 3
  have q4 : W.cell? ⟨w.heap.size + 1 + 1 + 1, 4, none⟩ = some (.int .i64 0) := HBX.out.q.cell 4
  have q5 : W.cell? ⟨w.heap.size + 1 + 1 + 1, 5, none⟩ = some (.bool false) := HBX.out.q.cell 5
  have q6 : W.cell? ⟨w.heap.size + 1 + 1 + 1, 6, none⟩ = some (.int .i64 0) := HBX.out.q.cell 6
  have q7 : W.cell? ⟨w.heap.size + 1 + 1 + 1, 7, none⟩ = some (.int .i64 0) := HBX.out.q.cell 7
  have q8 : W.cell? ⟨w.heap.size + 1 + 1 + 1, 8, none⟩ = some (.int .i64 0) := HBX.out.q.cell 8
  have qf : ∀ i, W.frozen? ⟨w.heap.size + 1 + 1 + 1, i, none⟩ = false := HBX.out.q.frozen
  go_region_held3 (fun w' => (w'.cell? ⟨w.heap.size, 0, none⟩ = some (.bool g.d) ∧ w'.cell? ⟨w.heap.size, 1, none⟩ = some (.bool g.a) ∧ w'.cell? ⟨w.heap.size, 2, none⟩ = some (.slice g.pa g.pn g.pc) ∧ w'.cell? ⟨w.heap.size, 3, none⟩ = some (.int .i64 g.k) ∧ w'.cell? ⟨w.heap.size, 4, none⟩ = some (.int .i64 g.r) ∧ w'.cell? ⟨w.heap.size, 5, none⟩ = some (.bool g.laid) ∧ w'.cell? ⟨w.heap.size, 6, none⟩ = some (.int .i64 g.R) ∧ w'.cell? ⟨w.heap.size, 7, none⟩ = some (.int .i64 g.C) ∧ w'.cell? ⟨w.heap.size, 8, none⟩ = some (.int .i64 g.I)) ∧ (w'.cell? ⟨w.heap.size + 1, 0, none⟩ = some (.int .i64 x.kind) ∧ w'.cell? ⟨w.heap.size + 1, 1, none⟩ = some (.string x.name) ∧ w'.cell? ⟨w.heap.size + 1, 2, none⟩ = some (.string x.to) ∧ w'.cell? ⟨w.heap.size + 1, 3, none⟩ = some (.slice L.pd x.data.length L.cd) ∧ w'.cell? ⟨w.heap.size + 1, 4, none⟩ = some (.int .i64 x.a) ∧ w'.cell? ⟨w.heap.size + 1, 5, none⟩ = some (.int .i64 x.b) ∧ w'.cell? ⟨w.heap.size + 1, 6, none⟩ = some (.int .i64 x.c) ∧ w'.cell? ⟨w.heap.size + 1, 7, none⟩ = some (.bool x.yes) ∧ w'.cell? ⟨w.heap.size + 1, 8, none⟩ = some (.slice L.pp x.plan.length L.cp) ∧ w'.cell? ⟨w.heap.size + 1, 9, none⟩ = some (.slice L.pr x.dirs.length L.cr) ∧ w'.cell? ⟨w.heap.size + 1, 10, none⟩ = some (.slice L.pc x.cuts.length L.cc)) ∧ w'.cell? ⟨w.heap.size + 1 + 1 + 1 + 1, 0, none⟩ = some (.int .i64 0) ∧ w'.cell? ⟨w.heap.size + 1 + 1 + 1 + 1, 1, none⟩ = some (.slice none 0 0) ∧ w'.cell? ⟨w.heap.size + 1 + 1 + 1 + 1, 2, none⟩ = some (.slice none 0 0) ∧ w'.cell? ⟨w.heap.size + 1 + 1 + 1 + 1, 3, none⟩ = some (.slice none 0 0) ∧ w'.cell? ⟨w.heap.size + 1 + 1 + 1 + 1, 4, none⟩ = some (.int .i64 0) ∧ w'.cell? ⟨w.heap.size + 1 + 1 + 1 + 1, 5, none⟩ = some (.bool false)) (first | exact ⟨gate_cells (by with_reducible assumption), step_cells' (by with_reducible assumption), said_zero (by with_reducible assumption)⟩ | go_keep)
    (first | (go_at_call 63; rw [← HGV.out]; refine (grest_any g x.yes W.drew HRB.out).mono ?_; rintro e v1 ⟨rfl, hb1⟩; rw [← HG2.out]; unfold gcells; have hb1' : Below W.heap.size W v1 := below_of_drew hb1; have kb2 := kb0.below hb1' kb0.lt; have kx2 := kx0.below hb1' kx0.lt; have ks2 := ks0.below hb1' ks0.lt; have HB1 := Lib.hid hb1'; have HBY := Lib.hid (HBX.out.below hb1'); have hwl1 := Nat.lt_of_lt_of_le hwl hb1'.size; clear hb1 hb1' r0 r1 r2 r3 r4 r5 rf q0 q1 q2 q3 q4 q5 q6 q7 q8 qf; have r0 : v1.cell? ⟨w.heap.size + 1 + 1, 0, none⟩ = some (.int .i64 0) := HBY.out.r.cell 0; have r1 : v1.cell? ⟨w.heap.size + 1 + 1, 1, none⟩ = some (.slice none 0 0) := HBY.out.r.cell 1; have r2 : v1.cell? ⟨w.heap.size + 1 + 1, 2, none⟩ = some (.slice none 0 0) := HBY.out.r.cell 2; have r3 : v1.cell? ⟨w.heap.size + 1 + 1, 3, none⟩ = some (.slice none 0 0) := HBY.out.r.cell 3; have r4 : v1.cell? ⟨w.heap.size + 1 + 1, 4, none⟩ = some (.int .i64 0) := HBY.out.r.cell 4; have r5 : v1.cell? ⟨w.heap.size + 1 + 1, 5, none⟩ = some (.bool false) := HBY.out.r.cell 5; have rf : ∀ i, v1.frozen? ⟨w.heap.size + 1 + 1, i, none⟩ = false := HBY.out.r.frozen; have q0 : v1.cell? ⟨w.heap.size + 1 + 1 + 1, 0, none⟩ = some (.bool false) := HBY.out.q.cell 0; have q1 : v1.cell? ⟨w.heap.size + 1 + 1 + 1, 1, none⟩ = some (.bool false) := HBY.out.q.cell 1; have q2 : v1.cell? ⟨w.heap.size + 1 + 1 + 1, 2, none⟩ = some (.slice none 0 0) := HBY.out.q.cell 2; have q3 : v1.cell? ⟨w.heap.size + 1 + 1 + 1, 3, none⟩ = some (.int .i64 0) := HBY.out.q.cell 3; have q4 : v1.cell? ⟨w.heap.size + 1 + 1 + 1, 4, none⟩ = some (.int .i64 0) := HBY.out.q.cell 4; have q5 : v1.cell? ⟨w.heap.size + 1 + 1 + 1, 5, none⟩ = some (.bool false) := HBY.out.q.cell 5; have q6 : v1.cell? ⟨w.heap.size + 1 + 1 + 1, 6, none⟩ = some (.int .i64 0) := HBY.out.q.cell 6; have q7 : v1.cell? ⟨w.heap.size + 1 + 1 + 1, 7, none⟩ = some (.int .i64 0) := HBY.out.q.cell 7; have q8 : v1.cell? ⟨w.heap.size + 1 + 1 + 1, 8, none⟩ = some (.int .i64 0) := HBY.out.q.cell 8; have qf : ∀ i, v1.frozen? ⟨w.heap.size + 1 + 1 + 1, i, none⟩ = false := HBY.out.q.frozen))
  go_wp2
  refine bodyPost_ret (v := .tuple #[.agg #[.int .i64 0, .slice none 0 0, .slice none 0 0, .slice none 0 0, .int .i64 0, .bool false], .agg #[.bool g2.d, .bool g2.a, .slice g2.pa g2.pn g2.pc, .int .i64 g2.k, .int .i64 g2.r, .bool g2.laid, .int .i64 g2.R, .int .i64 g2.C, .int .i64 g2.I]]) (by simp only [results, Try.results36]; go_simp) rfl ?_
  refine ⟨_, rfl, Said.code_at _ _ 0, ?_⟩
  have HBZ : Hid (Below w.heap.size w v1) := Lib.hid (HWB.out.trans (HB1.out.mono HWB.out.size))
  repeat (first | with_reducible exact HBZ.out | with_reducible refine Below.setCell ?_ (by show w.heap.size ≤ _; simp only []; omega) _ | with_reducible refine below_drewN ?_ _ | with_reducible refine below_drew1 ?_)

set_option maxRecDepth 100000 in
set_option maxHeartbeats 20000000 in
theorem led_calls (p : Nat) (S : Drv) (F : Nat → Prop) (x : PStep) (L : SLay) (g : GCells) (w : World) (hk : x.kind = 10) (hx : x.Fits) (hd : Dr w p S F) (hF : ∀ k, F k → k < w.heap.size) (hS : S.Small) (B : Nat) (hB : B ≤ w.heap.size) (hxa : StepAt w B L x) :
    Calls Try.prog 36 #[.agg (gcells g), .pointer (some ⟨p, 0, none⟩), .agg (stepCells x L)] w fun e w' => 
      ∃ u, e = .returned (.tuple #[u, .agg (gcells g)]) ∧ SaidAt w' w.heap.size u { Said.none_ with n := g.k } ∧ Below w.heap.size w w' := by
  obtain ⟨W, hW⟩ : ∃ W, W = ((((w.alloc (.cells (gcells g) 61)).alloc (.cells (stepCells x L) 69)).alloc (.cells zeroSaid 41)).alloc (.cells zeroGate 61)).alloc (.cells zeroSaid 41) := ⟨_, rfl⟩
  have HBX := Lib.hid (hW ▸ Box5.new w g x L)
  have HWB : Hid (Below w.heap.size w W) := Lib.hid (hW ▸ below5 w _ _ _ _ _)
  have HWS : Hid (W.heap.size = w.heap.size + 5) := Lib.hid (by rw [hW]; simp)
  unfold gcells stepCells zeroSaid zeroGate at hW
  have HW := Lib.hid hW
  have HX := Lib.hid hx
  have HD := Lib.hid hd
  have HF := Lib.hid hF
  have HS := Lib.hid hS
  have HXA := Lib.hid hxa
  have HCV : Hid (stepCells x L = #[.int .i64 x.kind, .string x.name, .string x.to, .slice L.pd x.data.length L.cd, .int .i64 x.a, .int .i64 x.b, .int .i64 x.c, .bool x.yes, .slice L.pp x.plan.length L.cp, .slice L.pr x.dirs.length L.cr, .slice L.pc x.cuts.length L.cc]) := Lib.hid rfl
  have HGV : Hid (gcells g = #[.bool g.d, .bool g.a, .slice g.pa g.pn g.pc, .int .i64 g.k, .int .i64 g.r, .bool g.laid, .int .i64 g.R, .int .i64 g.C, .int .i64 g.I]) := Lib.hid rfl
  have t9 : (x.kind == 9) = false := by simp [hk]
  have t10 : (x.kind == 10) = true := by simp [hk]
  have t11 : (x.kind == 11) = false := by simp [hk]
  have t12 : (x.kind == 12) = false := by simp [hk]
  have t13 : (x.kind == 13) = false := by simp [hk]
  have t14 : (x.kind == 14) = false := by simp [hk]
  have t15 : (x.kind == 15) = false := by simp [hk]
  have t16 : (x.kind == 16) = false := by simp [hk]
  have h1k : 1 ≤ x.kind := by omega
  have h8k : 8 < x.kind := by omega
  have h8n : ¬ x.kind ≤ 8 := by omega
  have HK := Lib.hid hk
  have HWL := Lib.hid HWS.out
  have hwl : w.heap.size + 1 + 1 + 1 + 1 < W.heap.size := by have := HWS.out; omega
  have hne3 : ¬ (w.heap.size + 1 + 1 = w.heap.size) := by omega
  have hne4 : ¬ (w.heap.size + 1 + 1 + 1 = w.heap.size) := by omega
  have hne5 : ¬ (w.heap.size + 1 + 1 + 1 + 1 = w.heap.size) := by omega
  have hne6 : ¬ (w.heap.size + 1 + 1 + 1 = w.heap.size + 1) := by omega
  have hne7 : ¬ (w.heap.size + 1 + 1 = w.heap.size + 1) := by omega
  have hne8 : ¬ (w.heap.size + 1 + 1 + 1 + 1 = w.heap.size + 1) := by omega
  have hne9 : ¬ (w.heap.size + 1 + 1 + 1 + 1 = w.heap.size + 1 + 1) := by omega
  obtain ⟨V, hV⟩ : ∃ V, V = g.k := ⟨_, rfl⟩
  have HV := Lib.hid hV
  clear hk hx hd hF hS hxa hW hV
  unfold gcells stepCells
  go_enter Try.func36, Try.ntmps36
  go_wp2_with fail
  have HBZ : Hid (Below w.heap.size w w) := Lib.hid (Below.refl _ _)
  go_region
  all_goals
    go_wp2
    refine bodyPost_ret (v := .tuple #[.agg #[.int .i64 0, .slice none 0 0, .slice none 0 0, .slice none 0 0, .int .i64 g.k, .bool false], .agg #[.bool g.d, .bool g.a, .slice g.pa g.pn g.pc, .int .i64 g.k, .int .i64 g.r, .bool g.laid, .int .i64 g.R, .int .i64 g.C, .int .i64 g.I]]) (by simp only [results, Try.results36]; go_simp) rfl ?_
    refine ⟨_, rfl, ⟨_, _, _, rfl, World.ownsRow_nil _ _ _ _, World.ownsRow_nil _ _ _ _, FilesAt.nil _ _⟩, ?_⟩
    repeat (first | with_reducible exact HBZ.out | with_reducible refine Below.setCell ?_ (by show w.heap.size ≤ _; simp only []; omega) _ | with_reducible refine below_drewN ?_ _ | with_reducible refine below_drew1 ?_ | with_reducible refine Below.alloc ?_ (by (try simp only [alloc_size, size_drew1, size_set]); omega) _)

set_option maxRecDepth 100000 in
set_option maxHeartbeats 20000000 in
theorem led_on (p : Nat) (S : Drv) (F : Nat → Prop) (x : PStep) (L : SLay) (g : GCells) (w : World) (hk : x.kind = 16) (hx : x.Fits) (hd : Dr w p S F) (hF : ∀ k, F k → k < w.heap.size) (hS : S.Small) (B : Nat) (hB : B ≤ w.heap.size) (hxa : StepAt w B L x) :
    Calls Try.prog 36 #[.agg (gcells g), .pointer (some ⟨p, 0, none⟩), .agg (stepCells x L)] w fun e w' => 
      ∃ u, e = .returned (.tuple #[u, .agg (gcells g)]) ∧ SaidAt w' w.heap.size u { Said.none_ with yes := (!g.d) } ∧ Below w.heap.size w w' := by
  obtain ⟨W, hW⟩ : ∃ W, W = ((((w.alloc (.cells (gcells g) 61)).alloc (.cells (stepCells x L) 69)).alloc (.cells zeroSaid 41)).alloc (.cells zeroGate 61)).alloc (.cells zeroSaid 41) := ⟨_, rfl⟩
  have HBX := Lib.hid (hW ▸ Box5.new w g x L)
  have HWB : Hid (Below w.heap.size w W) := Lib.hid (hW ▸ below5 w _ _ _ _ _)
  have HWS : Hid (W.heap.size = w.heap.size + 5) := Lib.hid (by rw [hW]; simp)
  unfold gcells stepCells zeroSaid zeroGate at hW
  have HW := Lib.hid hW
  have HX := Lib.hid hx
  have HD := Lib.hid hd
  have HF := Lib.hid hF
  have HS := Lib.hid hS
  have HXA := Lib.hid hxa
  have HCV : Hid (stepCells x L = #[.int .i64 x.kind, .string x.name, .string x.to, .slice L.pd x.data.length L.cd, .int .i64 x.a, .int .i64 x.b, .int .i64 x.c, .bool x.yes, .slice L.pp x.plan.length L.cp, .slice L.pr x.dirs.length L.cr, .slice L.pc x.cuts.length L.cc]) := Lib.hid rfl
  have HGV : Hid (gcells g = #[.bool g.d, .bool g.a, .slice g.pa g.pn g.pc, .int .i64 g.k, .int .i64 g.r, .bool g.laid, .int .i64 g.R, .int .i64 g.C, .int .i64 g.I]) := Lib.hid rfl
  have t9 : (x.kind == 9) = false := by simp [hk]
  have t10 : (x.kind == 10) = false := by simp [hk]
  have t11 : (x.kind == 11) = false := by simp [hk]
  have t12 : (x.kind == 12) = false := by simp [hk]
  have t13 : (x.kind == 13) = false := by simp [hk]
  have t14 : (x.kind == 14) = false := by simp [hk]
  have t15 : (x.kind == 15) = false := by simp [hk]
  have t16 : (x.kind == 16) = true := by simp [hk]
  have h1k : 1 ≤ x.kind := by omega
  have h8k : 8 < x.kind := by omega
  have h8n : ¬ x.kind ≤ 8 := by omega
  have HK := Lib.hid hk
  have HWL := Lib.hid HWS.out
  have hwl : w.heap.size + 1 + 1 + 1 + 1 < W.heap.size := by have := HWS.out; omega
  have hne3 : ¬ (w.heap.size + 1 + 1 = w.heap.size) := by omega
  have hne4 : ¬ (w.heap.size + 1 + 1 + 1 = w.heap.size) := by omega
  have hne5 : ¬ (w.heap.size + 1 + 1 + 1 + 1 = w.heap.size) := by omega
  have hne6 : ¬ (w.heap.size + 1 + 1 + 1 = w.heap.size + 1) := by omega
  have hne7 : ¬ (w.heap.size + 1 + 1 = w.heap.size + 1) := by omega
  have hne8 : ¬ (w.heap.size + 1 + 1 + 1 + 1 = w.heap.size + 1) := by omega
  have hne9 : ¬ (w.heap.size + 1 + 1 + 1 + 1 = w.heap.size + 1 + 1) := by omega
  obtain ⟨V, hV⟩ : ∃ V, V = g.k := ⟨_, rfl⟩
  have HV := Lib.hid hV
  clear hk hx hd hF hS hxa hW hV
  unfold gcells stepCells
  go_enter Try.func36, Try.ntmps36
  go_wp2_with fail
  have HBZ : Hid (Below w.heap.size w w) := Lib.hid (Below.refl _ _)
  go_region
  all_goals
    go_wp2
    refine bodyPost_ret (v := .tuple #[.agg #[.int .i64 0, .slice none 0 0, .slice none 0 0, .slice none 0 0, .int .i64 0, .bool (!g.d)], .agg #[.bool g.d, .bool g.a, .slice g.pa g.pn g.pc, .int .i64 g.k, .int .i64 g.r, .bool g.laid, .int .i64 g.R, .int .i64 g.C, .int .i64 g.I]]) (by simp only [results, Try.results36]; go_simp) rfl ?_
    refine ⟨_, rfl, ⟨_, _, _, rfl, World.ownsRow_nil _ _ _ _, World.ownsRow_nil _ _ _ _, FilesAt.nil _ _⟩, ?_⟩
    repeat (first | with_reducible exact HBZ.out | with_reducible refine Below.setCell ?_ (by show w.heap.size ≤ _; simp only []; omega) _ | with_reducible refine below_drewN ?_ _ | with_reducible refine below_drew1 ?_ | with_reducible refine Below.alloc ?_ (by (try simp only [alloc_size, size_drew1, size_set]); omega) _)

set_option maxRecDepth 100000 in
set_option maxHeartbeats 20000000 in
theorem led_struck (p : Nat) (S : Drv) (F : Nat → Prop) (x : PStep) (L : SLay) (g : GCells) (w : World) (hk : x.kind = 13) (hx : x.Fits) (hd : Dr w p S F) (hF : ∀ k, F k → k < w.heap.size) (hS : S.Small) (B : Nat) (hB : B ≤ w.heap.size) (hxa : StepAt w B L x) :
    Calls Try.prog 36 #[.agg (gcells g), .pointer (some ⟨p, 0, none⟩), .agg (stepCells x L)] w fun e w' => 
      ∃ u, e = .returned (.tuple #[u, .agg (gcells g)]) ∧ SaidAt w' w.heap.size u { Said.none_ with yes := g.struck } ∧ Below w.heap.size w w' := by
  obtain ⟨W, hW⟩ : ∃ W, W = ((((w.alloc (.cells (gcells g) 61)).alloc (.cells (stepCells x L) 69)).alloc (.cells zeroSaid 41)).alloc (.cells zeroGate 61)).alloc (.cells zeroSaid 41) := ⟨_, rfl⟩
  have HBX := Lib.hid (hW ▸ Box5.new w g x L)
  have HWB : Hid (Below w.heap.size w W) := Lib.hid (hW ▸ below5 w _ _ _ _ _)
  have HWS : Hid (W.heap.size = w.heap.size + 5) := Lib.hid (by rw [hW]; simp)
  unfold gcells stepCells zeroSaid zeroGate at hW
  have HW := Lib.hid hW
  have HX := Lib.hid hx
  have HD := Lib.hid hd
  have HF := Lib.hid hF
  have HS := Lib.hid hS
  have HXA := Lib.hid hxa
  have HCV : Hid (stepCells x L = #[.int .i64 x.kind, .string x.name, .string x.to, .slice L.pd x.data.length L.cd, .int .i64 x.a, .int .i64 x.b, .int .i64 x.c, .bool x.yes, .slice L.pp x.plan.length L.cp, .slice L.pr x.dirs.length L.cr, .slice L.pc x.cuts.length L.cc]) := Lib.hid rfl
  have HGV : Hid (gcells g = #[.bool g.d, .bool g.a, .slice g.pa g.pn g.pc, .int .i64 g.k, .int .i64 g.r, .bool g.laid, .int .i64 g.R, .int .i64 g.C, .int .i64 g.I]) := Lib.hid rfl
  have t9 : (x.kind == 9) = false := by simp [hk]
  have t10 : (x.kind == 10) = false := by simp [hk]
  have t11 : (x.kind == 11) = false := by simp [hk]
  have t12 : (x.kind == 12) = false := by simp [hk]
  have t13 : (x.kind == 13) = true := by simp [hk]
  have t14 : (x.kind == 14) = false := by simp [hk]
  have t15 : (x.kind == 15) = false := by simp [hk]
  have t16 : (x.kind == 16) = false := by simp [hk]
  have h1k : 1 ≤ x.kind := by omega
  have h8k : 8 < x.kind := by omega
  have h8n : ¬ x.kind ≤ 8 := by omega
  have HK := Lib.hid hk
  have HWL := Lib.hid HWS.out
  have hwl : w.heap.size + 1 + 1 + 1 + 1 < W.heap.size := by have := HWS.out; omega
  have hne3 : ¬ (w.heap.size + 1 + 1 = w.heap.size) := by omega
  have hne4 : ¬ (w.heap.size + 1 + 1 + 1 = w.heap.size) := by omega
  have hne5 : ¬ (w.heap.size + 1 + 1 + 1 + 1 = w.heap.size) := by omega
  have hne6 : ¬ (w.heap.size + 1 + 1 + 1 = w.heap.size + 1) := by omega
  have hne7 : ¬ (w.heap.size + 1 + 1 = w.heap.size + 1) := by omega
  have hne8 : ¬ (w.heap.size + 1 + 1 + 1 + 1 = w.heap.size + 1) := by omega
  have hne9 : ¬ (w.heap.size + 1 + 1 + 1 + 1 = w.heap.size + 1 + 1) := by omega
  obtain ⟨V, hV⟩ : ∃ V, V = g.struck := ⟨_, rfl⟩
  have HV := Lib.hid hV
  rw [← HV.out]
  clear hk hx hd hF hS hxa hW hV
  unfold gcells stepCells
  go_enter Try.func36, Try.ntmps36
  go_wp2_with fail
  rw [← HW.out]
  rw [← HGV.out]
  refine (gstruck_any g W).mono ?_
  rintro e v1 ⟨rfl, hb1⟩
  rw [← HV.out]
  have HB1 := Lib.hid hb1
  have HBY := Lib.hid (HBX.out.below hb1)
  have HBZ : Hid (Below w.heap.size w v1) := Lib.hid (HWB.out.trans (hb1.mono HWB.out.size))
  obtain ⟨x0, x1, x2, x3, x4, x5, x6, x7, x8, x9, x10⟩ := step_cells' HBY.out.x
  obtain ⟨z0, z1, z2, z3, z4, z5, z6, z7, z8⟩ := gate_cells HBY.out.g
  have hwl1 := Nat.lt_of_lt_of_le hwl hb1.size
  clear hb1
  have r0 : v1.cell? ⟨w.heap.size + 1 + 1, 0, none⟩ = some (.int .i64 0) := HBY.out.r.cell 0
  have r1 : v1.cell? ⟨w.heap.size + 1 + 1, 1, none⟩ = some (.slice none 0 0) := HBY.out.r.cell 1
  have r2 : v1.cell? ⟨w.heap.size + 1 + 1, 2, none⟩ = some (.slice none 0 0) := HBY.out.r.cell 2
  have r3 : v1.cell? ⟨w.heap.size + 1 + 1, 3, none⟩ = some (.slice none 0 0) := HBY.out.r.cell 3
  have r4 : v1.cell? ⟨w.heap.size + 1 + 1, 4, none⟩ = some (.int .i64 0) := HBY.out.r.cell 4
  have r5 : v1.cell? ⟨w.heap.size + 1 + 1, 5, none⟩ = some (.bool false) := HBY.out.r.cell 5
  have rf : ∀ i, v1.frozen? ⟨w.heap.size + 1 + 1, i, none⟩ = false := HBY.out.r.frozen
  have q0 : v1.cell? ⟨w.heap.size + 1 + 1 + 1, 0, none⟩ = some (.bool false) := HBY.out.q.cell 0
  have q1 : v1.cell? ⟨w.heap.size + 1 + 1 + 1, 1, none⟩ = some (.bool false) := HBY.out.q.cell 1
  have q2 : v1.cell? ⟨w.heap.size + 1 + 1 + 1, 2, none⟩ = some (.slice none 0 0) := HBY.out.q.cell 2
  have q3 : v1.cell? ⟨w.heap.size + 1 + 1 + 1, 3, none⟩ = some (.int .i64 0) := HBY.out.q.cell 3
  have q4 : v1.cell? ⟨w.heap.size + 1 + 1 + 1, 4, none⟩ = some (.int .i64 0) := HBY.out.q.cell 4
  have q5 : v1.cell? ⟨w.heap.size + 1 + 1 + 1, 5, none⟩ = some (.bool false) := HBY.out.q.cell 5
  have q6 : v1.cell? ⟨w.heap.size + 1 + 1 + 1, 6, none⟩ = some (.int .i64 0) := HBY.out.q.cell 6
  have q7 : v1.cell? ⟨w.heap.size + 1 + 1 + 1, 7, none⟩ = some (.int .i64 0) := HBY.out.q.cell 7
  have q8 : v1.cell? ⟨w.heap.size + 1 + 1 + 1, 8, none⟩ = some (.int .i64 0) := HBY.out.q.cell 8
  have qf : ∀ i, v1.frozen? ⟨w.heap.size + 1 + 1 + 1, i, none⟩ = false := HBY.out.q.frozen
  have s0 : v1.cell? ⟨w.heap.size + 1 + 1 + 1 + 1, 0, none⟩ = some (.int .i64 0) := HBY.out.s.cell 0
  have s1 : v1.cell? ⟨w.heap.size + 1 + 1 + 1 + 1, 1, none⟩ = some (.slice none 0 0) := HBY.out.s.cell 1
  have s2 : v1.cell? ⟨w.heap.size + 1 + 1 + 1 + 1, 2, none⟩ = some (.slice none 0 0) := HBY.out.s.cell 2
  have s3 : v1.cell? ⟨w.heap.size + 1 + 1 + 1 + 1, 3, none⟩ = some (.slice none 0 0) := HBY.out.s.cell 3
  have s4 : v1.cell? ⟨w.heap.size + 1 + 1 + 1 + 1, 4, none⟩ = some (.int .i64 0) := HBY.out.s.cell 4
  have s5 : v1.cell? ⟨w.heap.size + 1 + 1 + 1 + 1, 5, none⟩ = some (.bool false) := HBY.out.s.cell 5
  have sf : ∀ i, v1.frozen? ⟨w.heap.size + 1 + 1 + 1 + 1, i, none⟩ = false := HBY.out.s.frozen
  go_wp2_with fail
  go_region
  all_goals
    go_wp2
    refine bodyPost_ret (v := .tuple #[.agg #[.int .i64 0, .slice none 0 0, .slice none 0 0, .slice none 0 0, .int .i64 0, .bool V], .agg #[.bool g.d, .bool g.a, .slice g.pa g.pn g.pc, .int .i64 g.k, .int .i64 g.r, .bool g.laid, .int .i64 g.R, .int .i64 g.C, .int .i64 g.I]]) (by simp only [results, Try.results36]; go_simp) rfl ?_
    refine ⟨_, rfl, ⟨_, _, _, rfl, World.ownsRow_nil _ _ _ _, World.ownsRow_nil _ _ _ _, FilesAt.nil _ _⟩, ?_⟩
    repeat (first | with_reducible exact HBZ.out | with_reducible refine Below.setCell ?_ (by show w.heap.size ≤ _; simp only []; omega) _ | with_reducible refine below_drewN ?_ _ | with_reducible refine below_drew1 ?_ | with_reducible refine Below.alloc ?_ (by (try simp only [alloc_size, size_drew1, size_set]); omega) _)

set_option maxRecDepth 100000 in
set_option maxHeartbeats 20000000 in
theorem led_other (p : Nat) (S : Drv) (F : Nat → Prop) (x : PStep) (L : SLay) (g : GCells) (w : World) (hk : ¬(1 ≤ x.kind ∧ x.kind ≤ 16)) (hx : x.Fits) (hd : Dr w p S F) (hF : ∀ k, F k → k < w.heap.size) (hS : S.Small) (B : Nat) (hB : B ≤ w.heap.size) (hxa : StepAt w B L x) (N : Nat) (hI : S.Inv N) (hN : N ≤ 2199023254000) :
    Calls Try.prog 36 #[.agg (gcells g), .pointer (some ⟨p, 0, none⟩), .agg (stepCells x L)] w fun e w' => 
      ∃ u, e = .returned (.tuple #[u, .agg (gcells g)]) ∧ SaidAt w' w.heap.size u (plain25 S x).2 ∧ Dr w' p (plain25 S x).1 (grow F w w') ∧ Touch F w w' := by
  obtain ⟨W, hW⟩ : ∃ W, W = ((((w.alloc (.cells (gcells g) 61)).alloc (.cells (stepCells x L) 69)).alloc (.cells zeroSaid 41)).alloc (.cells zeroGate 61)).alloc (.cells zeroSaid 41) := ⟨_, rfl⟩
  have HBX := Lib.hid (hW ▸ Box5.new w g x L)
  have HWB : Hid (Below w.heap.size w W) := Lib.hid (hW ▸ below5 w _ _ _ _ _)
  have HWS : Hid (W.heap.size = w.heap.size + 5) := Lib.hid (by rw [hW]; simp)
  unfold gcells stepCells zeroSaid zeroGate at hW
  have HW := Lib.hid hW
  have HX := Lib.hid hx
  have HD := Lib.hid hd
  have HF := Lib.hid hF
  have HS := Lib.hid hS
  have HXA := Lib.hid hxa
  have HCV : Hid (stepCells x L = #[.int .i64 x.kind, .string x.name, .string x.to, .slice L.pd x.data.length L.cd, .int .i64 x.a, .int .i64 x.b, .int .i64 x.c, .bool x.yes, .slice L.pp x.plan.length L.cp, .slice L.pr x.dirs.length L.cr, .slice L.pc x.cuts.length L.cc]) := Lib.hid rfl
  have HGV : Hid (gcells g = #[.bool g.d, .bool g.a, .slice g.pa g.pn g.pc, .int .i64 g.k, .int .i64 g.r, .bool g.laid, .int .i64 g.R, .int .i64 g.C, .int .i64 g.I]) := Lib.hid rfl
  have t9 : (x.kind == 9) = false := by simp; omega
  have t10 : (x.kind == 10) = false := by simp; omega
  have t11 : (x.kind == 11) = false := by simp; omega
  have t12 : (x.kind == 12) = false := by simp; omega
  have t13 : (x.kind == 13) = false := by simp; omega
  have t14 : (x.kind == 14) = false := by simp; omega
  have t15 : (x.kind == 15) = false := by simp; omega
  have t16 : (x.kind == 16) = false := by simp; omega
  have HK := Lib.hid hk
  have HI := Lib.hid hI
  have HWL := Lib.hid HWS.out
  have hwl : w.heap.size + 1 + 1 + 1 + 1 < W.heap.size := by have := HWS.out; omega
  have hne3 : ¬ (w.heap.size + 1 + 1 = w.heap.size) := by omega
  have hne4 : ¬ (w.heap.size + 1 + 1 + 1 = w.heap.size) := by omega
  have hne6 : ¬ (w.heap.size + 1 + 1 + 1 = w.heap.size + 1) := by omega
  have hne7 : ¬ (w.heap.size + 1 + 1 = w.heap.size + 1) := by omega
  rcases (show x.kind < 1 ∨ (1 ≤ x.kind ∧ 8 < x.kind) by omega) with hc | hc
  all_goals
    have hc1 := hc
    clear hk hx hd hF hS hxa hW hI
    unfold gcells stepCells
    go_enter Try.func36, Try.ntmps36
    go_wp2_with fail
    rw [← HW.out]
    have kb0 : Blk W w.heap.size 61 (gcells g) := HBX.out.g
    have kx0 : Blk W (w.heap.size + 1) 69 (stepCells x L) := HBX.out.x
    have kb1 : Blk W.drew w.heap.size 61 (gcells g) := HBX.out.g
    have kx1 : Blk W.drew (w.heap.size + 1) 69 (stepCells x L) := HBX.out.x
    have HBXd : Hid (Box5 W.drew w.heap.size g x L) := Lib.hid (HBX.out.below (below_drewN (Below.refl _ W) 1))
    have HWBd : Hid (Below w.heap.size w W.drew) := Lib.hid (below_drewN HWB.out 1)
    go_region_held3 (fun w' => (w'.cell? ⟨w.heap.size, 0, none⟩ = some (.bool g.d) ∧ w'.cell? ⟨w.heap.size, 1, none⟩ = some (.bool g.a) ∧ w'.cell? ⟨w.heap.size, 2, none⟩ = some (.slice g.pa g.pn g.pc) ∧ w'.cell? ⟨w.heap.size, 3, none⟩ = some (.int .i64 g.k) ∧ w'.cell? ⟨w.heap.size, 4, none⟩ = some (.int .i64 g.r) ∧ w'.cell? ⟨w.heap.size, 5, none⟩ = some (.bool g.laid) ∧ w'.cell? ⟨w.heap.size, 6, none⟩ = some (.int .i64 g.R) ∧ w'.cell? ⟨w.heap.size, 7, none⟩ = some (.int .i64 g.C) ∧ w'.cell? ⟨w.heap.size, 8, none⟩ = some (.int .i64 g.I)) ∧ w'.cell? ⟨w.heap.size + 1, 0, none⟩ = some (.int .i64 x.kind) ∧ w'.cell? ⟨w.heap.size + 1, 1, none⟩ = some (.string x.name) ∧ w'.cell? ⟨w.heap.size + 1, 2, none⟩ = some (.string x.to) ∧ w'.cell? ⟨w.heap.size + 1, 3, none⟩ = some (.slice L.pd x.data.length L.cd) ∧ w'.cell? ⟨w.heap.size + 1, 4, none⟩ = some (.int .i64 x.a) ∧ w'.cell? ⟨w.heap.size + 1, 5, none⟩ = some (.int .i64 x.b) ∧ w'.cell? ⟨w.heap.size + 1, 6, none⟩ = some (.int .i64 x.c) ∧ w'.cell? ⟨w.heap.size + 1, 7, none⟩ = some (.bool x.yes) ∧ w'.cell? ⟨w.heap.size + 1, 8, none⟩ = some (.slice L.pp x.plan.length L.cp) ∧ w'.cell? ⟨w.heap.size + 1, 9, none⟩ = some (.slice L.pr x.dirs.length L.cr) ∧ w'.cell? ⟨w.heap.size + 1, 10, none⟩ = some (.slice L.pc x.cuts.length L.cc)) (first | exact ⟨gate_cells (by with_reducible assumption), step_cells' (by with_reducible assumption)⟩ | go_keep)
      (first | (go_at_call 41; rw [← HCV.out]; refine (plain25_any p S N F x L W.drew B HX.out (HD.out.below HWBd.out) (fun k hk => Nat.lt_of_lt_of_le (HF.out k hk) HWB.out.size) HI.out hN (Nat.le_trans hB HWB.out.size) (HXA.out.far fun k hk => HWBd.out.block k (by omega))).mono ?_; rintro e v5 ⟨u, rfl, hs5, hd5, ht5⟩; have HS5 := Lib.hid hs5; have HD5 := Lib.hid hd5; have HT5 := Lib.hid ht5; have HB7 := Lib.hid (HBXd.out.touch ht5 HF.out); have kb7 : Blk v5 w.heap.size 61 (gcells g) := HB7.out.g; have kx7 : Blk v5 (w.heap.size + 1) 69 (stepCells x L) := HB7.out.x; obtain ⟨dv, mv, fv, rfl, r1, r2, r3⟩ := hs5; obtain ⟨da, dc, rfl, _⟩ := own_shape r1; obtain ⟨ma, mc, rfl, _⟩ := own_shape r2; obtain ⟨fa, fc, rfl, _⟩ := r3.shape; obtain ⟨sd, hsd⟩ : ∃ sd, sd = (plain25 S x).2 := ⟨_, rfl⟩; rw [← hsd] at HS5 ⊢; obtain ⟨E, hE⟩ : ∃ E, E = sd.e := ⟨_, rfl⟩; obtain ⟨NN, hNN⟩ : ∃ E, E = sd.n := ⟨_, rfl⟩; obtain ⟨YY, hYY⟩ : ∃ E, E = sd.yes := ⟨_, rfl⟩; obtain ⟨dn, hdn⟩ : ∃ E, E = sd.data.length := ⟨_, rfl⟩; obtain ⟨mn, hmn⟩ : ∃ E, E = sd.names.length := ⟨_, rfl⟩; obtain ⟨fn, hfn⟩ : ∃ E, E = sd.files.length := ⟨_, rfl⟩; rw [← hE, ← hNN, ← hYY, ← hdn, ← hmn, ← hfn] at HS5 ⊢; have HSD := Lib.hid hsd; clear r1 r2 r3 hE hNN hYY hdn hmn hfn hsd; have r0 : v5.cell? ⟨w.heap.size + 1 + 1, 0, none⟩ = some (.int .i64 0) := HB7.out.r.cell 0; have r1 : v5.cell? ⟨w.heap.size + 1 + 1, 1, none⟩ = some (.slice none 0 0) := HB7.out.r.cell 1; have r2 : v5.cell? ⟨w.heap.size + 1 + 1, 2, none⟩ = some (.slice none 0 0) := HB7.out.r.cell 2; have r3 : v5.cell? ⟨w.heap.size + 1 + 1, 3, none⟩ = some (.slice none 0 0) := HB7.out.r.cell 3; have r4 : v5.cell? ⟨w.heap.size + 1 + 1, 4, none⟩ = some (.int .i64 0) := HB7.out.r.cell 4; have r5 : v5.cell? ⟨w.heap.size + 1 + 1, 5, none⟩ = some (.bool false) := HB7.out.r.cell 5; have rf : ∀ i, v5.frozen? ⟨w.heap.size + 1 + 1, i, none⟩ = false := HB7.out.r.frozen; have q0 : v5.cell? ⟨w.heap.size + 1 + 1 + 1, 0, none⟩ = some (.bool false) := HB7.out.q.cell 0; have q1 : v5.cell? ⟨w.heap.size + 1 + 1 + 1, 1, none⟩ = some (.bool false) := HB7.out.q.cell 1; have q2 : v5.cell? ⟨w.heap.size + 1 + 1 + 1, 2, none⟩ = some (.slice none 0 0) := HB7.out.q.cell 2; have q3 : v5.cell? ⟨w.heap.size + 1 + 1 + 1, 3, none⟩ = some (.int .i64 0) := HB7.out.q.cell 3; have q4 : v5.cell? ⟨w.heap.size + 1 + 1 + 1, 4, none⟩ = some (.int .i64 0) := HB7.out.q.cell 4; have q5 : v5.cell? ⟨w.heap.size + 1 + 1 + 1, 5, none⟩ = some (.bool false) := HB7.out.q.cell 5; have q6 : v5.cell? ⟨w.heap.size + 1 + 1 + 1, 6, none⟩ = some (.int .i64 0) := HB7.out.q.cell 6; have q7 : v5.cell? ⟨w.heap.size + 1 + 1 + 1, 7, none⟩ = some (.int .i64 0) := HB7.out.q.cell 7; have q8 : v5.cell? ⟨w.heap.size + 1 + 1 + 1, 8, none⟩ = some (.int .i64 0) := HB7.out.q.cell 8; have qf : ∀ i, v5.frozen? ⟨w.heap.size + 1 + 1 + 1, i, none⟩ = false := HB7.out.q.frozen; clear hd5 ht5))
    go_wp2
    refine bodyPost_ret (v := .tuple #[.agg #[.int .i64 E, .slice da dn dc, .slice ma mn mc, .slice fa fn fc, .int .i64 NN, .bool YY], .agg #[.bool g.d, .bool g.a, .slice g.pa g.pn g.pc, .int .i64 g.k, .int .i64 g.r, .bool g.laid, .int .i64 g.R, .int .i64 g.C, .int .i64 g.I]]) (by simp only [results, Try.results36]; go_simp) rfl ?_
    have GB : ∀ k, (k = w.heap.size + 1 + 1 ∨ k = w.heap.size + 1 + 1 + 1) → w.heap.size ≤ k ∧ k < W.drew.heap.size := fun k hk => by rcases hk with rfl | rfl <;> (rw [size_drew1]; omega)
    rw [← HSD.out]
    refine ⟨_, rfl, ?_, ?_⟩
    · refine SaidAt.base (HS5.out.touch (G := fun k => k = w.heap.size + 1 + 1 ∨ k = w.heap.size + 1 + 1 + 1) ?_ (fun k hk => (GB k hk).2)) HWBd.out.size
      iterate 15 (with_reducible refine Touch.set ?_ (by simp) _)
      exact Touch.refl _ _
    · refine frame_dr (G := fun k => k = w.heap.size + 1 + 1 ∨ k = w.heap.size + 1 + 1 + 1) HWBd.out HD5.out HT5.out ?_ (by simp only [size_set]) HF.out GB
      iterate 15 (with_reducible refine Touch.set ?_ (by simp) _)
      exact Touch.refl _ _

set_option maxRecDepth 100000 in
set_option maxHeartbeats 20000000 in
theorem led_arm (p : Nat) (S : Drv) (F : Nat → Prop) (x : PStep) (L : SLay) (g : GCells) (w : World) (hk : x.kind = 9) (hx : x.Fits) (hd : Dr w p S F) (hF : ∀ k, F k → k < w.heap.size) (hS : S.Small) (B : Nat) (hB : B ≤ w.heap.size) (hxa : StepAt w B L x) :
    Calls Try.prog 36 #[.agg (gcells g), .pointer (some ⟨p, 0, none⟩), .agg (stepCells x L)] w fun e w' => 
      ∃ u pa pc, e = .returned (.tuple #[u, .agg (gcells { g with pa := pa, pn := x.plan.length, pc := pc, k := 0 })]) ∧ SaidAt w' w.heap.size u .none_ ∧ w'.ownsRow w.heap.size 46 2 (.slice pa x.plan.length pc) x.plan.length (planCells x.plan) ∧ Below w.heap.size w w' := by
  obtain ⟨W, hW⟩ : ∃ W, W = ((((w.alloc (.cells (gcells g) 61)).alloc (.cells (stepCells x L) 69)).alloc (.cells zeroSaid 41)).alloc (.cells zeroGate 61)).alloc (.cells zeroSaid 41) := ⟨_, rfl⟩
  have HBX := Lib.hid (hW ▸ Box5.new w g x L)
  have HWB : Hid (Below w.heap.size w W) := Lib.hid (hW ▸ below5 w _ _ _ _ _)
  have HWS : Hid (W.heap.size = w.heap.size + 5) := Lib.hid (by rw [hW]; simp)
  unfold gcells stepCells zeroSaid zeroGate at hW
  have HW := Lib.hid hW
  have HX := Lib.hid hx
  have HD := Lib.hid hd
  have HF := Lib.hid hF
  have HS := Lib.hid hS
  have HXA := Lib.hid hxa
  have HCV : Hid (stepCells x L = #[.int .i64 x.kind, .string x.name, .string x.to, .slice L.pd x.data.length L.cd, .int .i64 x.a, .int .i64 x.b, .int .i64 x.c, .bool x.yes, .slice L.pp x.plan.length L.cp, .slice L.pr x.dirs.length L.cr, .slice L.pc x.cuts.length L.cc]) := Lib.hid rfl
  have HGV : Hid (gcells g = #[.bool g.d, .bool g.a, .slice g.pa g.pn g.pc, .int .i64 g.k, .int .i64 g.r, .bool g.laid, .int .i64 g.R, .int .i64 g.C, .int .i64 g.I]) := Lib.hid rfl
  have t9 : (x.kind == 9) = true := by simp [hk]
  have t10 : (x.kind == 10) = false := by simp [hk]
  have t11 : (x.kind == 11) = false := by simp [hk]
  have t12 : (x.kind == 12) = false := by simp [hk]
  have t13 : (x.kind == 13) = false := by simp [hk]
  have t14 : (x.kind == 14) = false := by simp [hk]
  have t15 : (x.kind == 15) = false := by simp [hk]
  have t16 : (x.kind == 16) = false := by simp [hk]
  have h1k : 1 ≤ x.kind := by omega
  have h8k : 8 < x.kind := by omega
  have h8n : ¬ x.kind ≤ 8 := by omega
  have HK := Lib.hid hk
  have HWL := Lib.hid HWS.out
  have hwl : w.heap.size + 1 + 1 + 1 + 1 < W.heap.size := by have := HWS.out; omega
  have hne3 : ¬ (w.heap.size + 1 + 1 = w.heap.size) := by omega
  have hne4 : ¬ (w.heap.size + 1 + 1 + 1 = w.heap.size) := by omega
  have hne5 : ¬ (w.heap.size + 1 + 1 + 1 + 1 = w.heap.size) := by omega
  have hne6 : ¬ (w.heap.size + 1 + 1 + 1 = w.heap.size + 1) := by omega
  have hne7 : ¬ (w.heap.size + 1 + 1 = w.heap.size + 1) := by omega
  have hne8 : ¬ (w.heap.size + 1 + 1 + 1 + 1 = w.heap.size + 1) := by omega
  have hne9 : ¬ (w.heap.size + 1 + 1 + 1 + 1 = w.heap.size + 1 + 1) := by omega
  have HWBd : Hid (Below w.heap.size w W.drew) := Lib.hid (below_drewN HWB.out 1)
  clear hk hx hd hF hS hxa hW
  unfold gcells stepCells
  go_enter Try.func36, Try.ntmps36
  go_wp2_with fail
  rw [← HW.out]
  have kb0 : Blk W w.heap.size 61 (gcells g) := HBX.out.g
  have kx0 : Blk W (w.heap.size + 1) 69 (stepCells x L) := HBX.out.x
  have ks0 : Blk W (w.heap.size + 1 + 1 + 1 + 1) 41 zeroSaid := HBX.out.s
  have kb1 : Blk W.drew w.heap.size 61 (gcells g) := HBX.out.g
  have kx1 : Blk W.drew (w.heap.size + 1) 69 (stepCells x L) := HBX.out.x
  have ks1 : Blk W.drew (w.heap.size + 1 + 1 + 1 + 1) 41 zeroSaid := HBX.out.s
  have r0 : W.cell? ⟨w.heap.size + 1 + 1, 0, none⟩ = some (.int .i64 0) := HBX.out.r.cell 0
  have r1 : W.cell? ⟨w.heap.size + 1 + 1, 1, none⟩ = some (.slice none 0 0) := HBX.out.r.cell 1
  have r2 : W.cell? ⟨w.heap.size + 1 + 1, 2, none⟩ = some (.slice none 0 0) := HBX.out.r.cell 2
  have r3 : W.cell? ⟨w.heap.size + 1 + 1, 3, none⟩ = some (.slice none 0 0) := HBX.out.r.cell 3
  have r4 : W.cell? ⟨w.heap.size + 1 + 1, 4, none⟩ = some (.int .i64 0) := HBX.out.r.cell 4
  have r5 : W.cell? ⟨w.heap.size + 1 + 1, 5, none⟩ = some (.bool false) := HBX.out.r.cell 5
  have rf : ∀ i, W.frozen? ⟨w.heap.size + 1 + 1, i, none⟩ = false := HBX.out.r.frozen
  have q0 : W.cell? ⟨w.heap.size + 1 + 1 + 1, 0, none⟩ = some (.bool false) := HBX.out.q.cell 0
  have q1 : W.cell? ⟨w.heap.size + 1 + 1 + 1, 1, none⟩ = some (.bool false) := HBX.out.q.cell 1
  have q2 : W.cell? ⟨w.heap.size + 1 + 1 + 1, 2, none⟩ = some (.slice none 0 0) := HBX.out.q.cell 2
  have q3 : W.cell? ⟨w.heap.size + 1 + 1 + 1, 3, none⟩ = some (.int .i64 0) := HBX.out.q.cell 3
  have q4 : W.cell? ⟨w.heap.size + 1 + 1 + 1, 4, none⟩ = some (.int .i64 0) := HBX.out.q.cell 4
  have q5 : W.cell? ⟨w.heap.size + 1 + 1 + 1, 5, none⟩ = some (.bool false) := HBX.out.q.cell 5
  have q6 : W.cell? ⟨w.heap.size + 1 + 1 + 1, 6, none⟩ = some (.int .i64 0) := HBX.out.q.cell 6
  have q7 : W.cell? ⟨w.heap.size + 1 + 1 + 1, 7, none⟩ = some (.int .i64 0) := HBX.out.q.cell 7
  have q8 : W.cell? ⟨w.heap.size + 1 + 1 + 1, 8, none⟩ = some (.int .i64 0) := HBX.out.q.cell 8
  have qf : ∀ i, W.frozen? ⟨w.heap.size + 1 + 1 + 1, i, none⟩ = false := HBX.out.q.frozen
  go_region_held3 (fun w' => (w'.cell? ⟨w.heap.size, 0, none⟩ = some (.bool g.d) ∧ w'.cell? ⟨w.heap.size, 1, none⟩ = some (.bool g.a) ∧ w'.cell? ⟨w.heap.size, 2, none⟩ = some (.slice g.pa g.pn g.pc) ∧ w'.cell? ⟨w.heap.size, 3, none⟩ = some (.int .i64 g.k) ∧ w'.cell? ⟨w.heap.size, 4, none⟩ = some (.int .i64 g.r) ∧ w'.cell? ⟨w.heap.size, 5, none⟩ = some (.bool g.laid) ∧ w'.cell? ⟨w.heap.size, 6, none⟩ = some (.int .i64 g.R) ∧ w'.cell? ⟨w.heap.size, 7, none⟩ = some (.int .i64 g.C) ∧ w'.cell? ⟨w.heap.size, 8, none⟩ = some (.int .i64 g.I)) ∧ (w'.cell? ⟨w.heap.size + 1, 0, none⟩ = some (.int .i64 x.kind) ∧ w'.cell? ⟨w.heap.size + 1, 1, none⟩ = some (.string x.name) ∧ w'.cell? ⟨w.heap.size + 1, 2, none⟩ = some (.string x.to) ∧ w'.cell? ⟨w.heap.size + 1, 3, none⟩ = some (.slice L.pd x.data.length L.cd) ∧ w'.cell? ⟨w.heap.size + 1, 4, none⟩ = some (.int .i64 x.a) ∧ w'.cell? ⟨w.heap.size + 1, 5, none⟩ = some (.int .i64 x.b) ∧ w'.cell? ⟨w.heap.size + 1, 6, none⟩ = some (.int .i64 x.c) ∧ w'.cell? ⟨w.heap.size + 1, 7, none⟩ = some (.bool x.yes) ∧ w'.cell? ⟨w.heap.size + 1, 8, none⟩ = some (.slice L.pp x.plan.length L.cp) ∧ w'.cell? ⟨w.heap.size + 1, 9, none⟩ = some (.slice L.pr x.dirs.length L.cr) ∧ w'.cell? ⟨w.heap.size + 1, 10, none⟩ = some (.slice L.pc x.cuts.length L.cc)) ∧ w'.cell? ⟨w.heap.size + 1 + 1 + 1 + 1, 0, none⟩ = some (.int .i64 0) ∧ w'.cell? ⟨w.heap.size + 1 + 1 + 1 + 1, 1, none⟩ = some (.slice none 0 0) ∧ w'.cell? ⟨w.heap.size + 1 + 1 + 1 + 1, 2, none⟩ = some (.slice none 0 0) ∧ w'.cell? ⟨w.heap.size + 1 + 1 + 1 + 1, 3, none⟩ = some (.slice none 0 0) ∧ w'.cell? ⟨w.heap.size + 1 + 1 + 1 + 1, 4, none⟩ = some (.int .i64 0) ∧ w'.cell? ⟨w.heap.size + 1 + 1 + 1 + 1, 5, none⟩ = some (.bool false)) (first | exact ⟨gate_cells (by with_reducible assumption), step_cells' (by with_reducible assumption), said_zero (by with_reducible assumption)⟩ | go_keep)
    (first | (go_at_call 60; rw [← HGV.out]; refine (garm_any g L.pp x.plan.length L.cp x.plan W.drew B (HXA.out.far fun k hk => HWBd.out.block k (by omega)).plan HX.out.plan (Nat.le_trans hB HWBd.out.size)).mono ?_; rintro e v1 ⟨pa, pc, rfl, ho1, hb1⟩; have HO1 := Lib.hid ho1; clear ho1; unfold gcells; have hb1' : Below W.heap.size W v1 := below_of_drew hb1; have kb2 := kb0.below hb1' kb0.lt; have kx2 := kx0.below hb1' kx0.lt; have ks2 := ks0.below hb1' ks0.lt; have HB1 := Lib.hid hb1'; have HBY := Lib.hid (HBX.out.below hb1'); have hwl1 := Nat.lt_of_lt_of_le hwl hb1'.size; clear hb1 hb1' r0 r1 r2 r3 r4 r5 rf q0 q1 q2 q3 q4 q5 q6 q7 q8 qf; have r0 : v1.cell? ⟨w.heap.size + 1 + 1, 0, none⟩ = some (.int .i64 0) := HBY.out.r.cell 0; have r1 : v1.cell? ⟨w.heap.size + 1 + 1, 1, none⟩ = some (.slice none 0 0) := HBY.out.r.cell 1; have r2 : v1.cell? ⟨w.heap.size + 1 + 1, 2, none⟩ = some (.slice none 0 0) := HBY.out.r.cell 2; have r3 : v1.cell? ⟨w.heap.size + 1 + 1, 3, none⟩ = some (.slice none 0 0) := HBY.out.r.cell 3; have r4 : v1.cell? ⟨w.heap.size + 1 + 1, 4, none⟩ = some (.int .i64 0) := HBY.out.r.cell 4; have r5 : v1.cell? ⟨w.heap.size + 1 + 1, 5, none⟩ = some (.bool false) := HBY.out.r.cell 5; have rf : ∀ i, v1.frozen? ⟨w.heap.size + 1 + 1, i, none⟩ = false := HBY.out.r.frozen; have q0 : v1.cell? ⟨w.heap.size + 1 + 1 + 1, 0, none⟩ = some (.bool false) := HBY.out.q.cell 0; have q1 : v1.cell? ⟨w.heap.size + 1 + 1 + 1, 1, none⟩ = some (.bool false) := HBY.out.q.cell 1; have q2 : v1.cell? ⟨w.heap.size + 1 + 1 + 1, 2, none⟩ = some (.slice none 0 0) := HBY.out.q.cell 2; have q3 : v1.cell? ⟨w.heap.size + 1 + 1 + 1, 3, none⟩ = some (.int .i64 0) := HBY.out.q.cell 3; have q4 : v1.cell? ⟨w.heap.size + 1 + 1 + 1, 4, none⟩ = some (.int .i64 0) := HBY.out.q.cell 4; have q5 : v1.cell? ⟨w.heap.size + 1 + 1 + 1, 5, none⟩ = some (.bool false) := HBY.out.q.cell 5; have q6 : v1.cell? ⟨w.heap.size + 1 + 1 + 1, 6, none⟩ = some (.int .i64 0) := HBY.out.q.cell 6; have q7 : v1.cell? ⟨w.heap.size + 1 + 1 + 1, 7, none⟩ = some (.int .i64 0) := HBY.out.q.cell 7; have q8 : v1.cell? ⟨w.heap.size + 1 + 1 + 1, 8, none⟩ = some (.int .i64 0) := HBY.out.q.cell 8; have qf : ∀ i, v1.frozen? ⟨w.heap.size + 1 + 1 + 1, i, none⟩ = false := HBY.out.q.frozen))
  go_wp2
  refine bodyPost_ret (v := .tuple #[.agg #[.int .i64 0, .slice none 0 0, .slice none 0 0, .slice none 0 0, .int .i64 0, .bool false], .agg #[.bool g.d, .bool g.a, .slice pa x.plan.length pc, .int .i64 0, .int .i64 g.r, .bool g.laid, .int .i64 g.R, .int .i64 g.C, .int .i64 g.I]]) (by simp only [results, Try.results36]; go_simp) rfl ?_
  have HBZ : Hid (Below w.heap.size w v1) := Lib.hid (HWB.out.trans (HB1.out.mono HWB.out.size))
  refine ⟨_, pa, pc, rfl, Said.code_at _ _ 0, ?_, ?_⟩
  · refine ownsRow_base_a (row_touch (G := fun k => k = w.heap.size + 1 + 1 ∨ k = w.heap.size + 1 + 1 + 1) HO1.out ?_ (fun k hk => by rw [size_drew1]; omega)) HWBd.out.size
    iterate 15 (with_reducible refine Touch.set ?_ (by simp) _)
    exact Touch.refl _ _
  · repeat (first | with_reducible exact HBZ.out | with_reducible refine Below.setCell ?_ (by show w.heap.size ≤ _; simp only []; omega) _ | with_reducible refine below_drewN ?_ _ | with_reducible refine below_drew1 ?_)
end Go.Proofs.Ytdmcjomcbhdcbaa

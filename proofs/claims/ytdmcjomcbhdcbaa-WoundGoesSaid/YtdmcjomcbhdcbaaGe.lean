/- The law's helper 'led', at the eight calls. -/
import Derived.Test.YtdmcjomcbhdcbaaGd
import Derived.Deep.RegionHeld3
import Derived.Deep.DeepCutAuto
import Derived.IntWalk
namespace Go.Proofs.Ytdmcjomcbhdcbaa
open Go.RowKit Go.Maps

theorem gate_cells {W : World} {b : Nat} {g : GCells} (h : Blk W b 61 (gcells g)) : W.cell? ⟨b, 0, none⟩ = some (.bool g.d) ∧ W.cell? ⟨b, 1, none⟩ = some (.bool g.a) ∧ W.cell? ⟨b, 2, none⟩ = some (.slice g.pa g.pn g.pc) ∧ W.cell? ⟨b, 3, none⟩ = some (.int .i64 g.k) ∧ W.cell? ⟨b, 4, none⟩ = some (.int .i64 g.r) ∧ W.cell? ⟨b, 5, none⟩ = some (.bool g.laid) ∧ W.cell? ⟨b, 6, none⟩ = some (.int .i64 g.R) ∧ W.cell? ⟨b, 7, none⟩ = some (.int .i64 g.C) ∧ W.cell? ⟨b, 8, none⟩ = some (.int .i64 g.I) :=
  ⟨h.cell 0, h.cell 1, h.cell 2, h.cell 3, h.cell 4, h.cell 5, h.cell 6, h.cell 7, h.cell 8⟩
theorem step_cells' {W : World} {b : Nat} {x : PStep} {L : SLay} (h : Blk W b 69 (stepCells x L)) : W.cell? ⟨b, 0, none⟩ = some (.int .i64 x.kind) ∧ W.cell? ⟨b, 1, none⟩ = some (.string x.name) ∧ W.cell? ⟨b, 2, none⟩ = some (.string x.to) ∧ W.cell? ⟨b, 3, none⟩ = some (.slice L.pd x.data.length L.cd) ∧ W.cell? ⟨b, 4, none⟩ = some (.int .i64 x.a) ∧ W.cell? ⟨b, 5, none⟩ = some (.int .i64 x.b) ∧ W.cell? ⟨b, 6, none⟩ = some (.int .i64 x.c) ∧ W.cell? ⟨b, 7, none⟩ = some (.bool x.yes) ∧ W.cell? ⟨b, 8, none⟩ = some (.slice L.pp x.plan.length L.cp) ∧ W.cell? ⟨b, 9, none⟩ = some (.slice L.pr x.dirs.length L.cr) ∧ W.cell? ⟨b, 10, none⟩ = some (.slice L.pc x.cuts.length L.cc) :=
  ⟨h.cell 0, h.cell 1, h.cell 2, h.cell 3, h.cell 4, h.cell 5, h.cell 6, h.cell 7, h.cell 8, h.cell 9, h.cell 10⟩

/-- The gate's number of a step's kind. -/
theorem kind_any (x : PStep) (L : SLay) (w : World) :
    Calls Try.prog 59 #[.agg (stepCells x L)] w fun e w' => e = .returned (.int .i64 (gkind x.kind)) ∧ Below w.heap.size w w' := by
  unfold stepCells gkind
  by_cases h1 : x.kind = 1
  · rw [if_pos h1]
    have t1 : (x.kind == 1) = true := by simp [h1]
    clear h1
    go_enter Try.func59, Try.ntmps59
    go_wp2
    go_ret
    exact ⟨rfl, (Below.refl _ _).alloc (Nat.le_refl _) _⟩
  · rw [if_neg h1]
    have t1 : (x.kind == 1) = false := by simp [h1]
    by_cases h2 : x.kind = 2
    · rw [if_pos h2]
      have t2 : (x.kind == 2) = true := by simp [h2]
      clear h1 h2
      go_enter Try.func59, Try.ntmps59
      go_wp2
      go_ret
      exact ⟨rfl, (Below.refl _ _).alloc (Nat.le_refl _) _⟩
    · rw [if_neg h2]
      have t2 : (x.kind == 2) = false := by simp [h2]
      clear h1 h2
      go_enter Try.func59, Try.ntmps59
      go_wp2
      go_ret
      exact ⟨rfl, (Below.refl _ _).alloc (Nat.le_refl _) _⟩
theorem gmay_gkind (k : Int) : gmay (gkind k) = gmay k := by
  unfold gkind gmay
  by_cases h1 : k = 1
  · rw [if_pos h1, h1]
  · by_cases h2 : k = 2
    · rw [if_neg h1, if_pos h2, h2]
    · rw [if_neg h1, if_neg h2]; simp [h1, h2]

theorem bcell {W w1 : World} (hb : Below W.heap.size W w1) : (∀ b o, b < W.heap.size → w1.cell? ⟨b, o, none⟩ = W.cell? ⟨b, o, none⟩) ∧ (∀ b o, b < W.heap.size → w1.frozen? ⟨b, o, none⟩ = W.frozen? ⟨b, o, none⟩) :=
  ⟨fun b o h => hb.cell (p := ⟨b, o, none⟩) h, fun b o h => hb.frozen (p := ⟨b, o, none⟩) h⟩
theorem touch_drew1 {G : Nat → Prop} {a b : World} (h : Touch G a b) : Touch G a b.drew := h.draw 1
theorem size_drew1 (w : World) : w.drew.heap.size = w.heap.size := rfl
def zeroGate : Array Value := #[.bool false, .bool false, .slice none 0 0, .int .i64 0, .int .i64 0, .bool false, .int .i64 0, .int .i64 0, .int .i64 0]
/-- The five blocks that 'led' lays first. -/
structure Box5 (W : World) (h : Nat) (g : GCells) (x : PStep) (L : SLay) : Prop where
  g : Blk W h 61 (gcells g)
  x : Blk W (h + 1) 69 (stepCells x L)
  r : Blk W (h + 1 + 1) 41 zeroSaid
  q : Blk W (h + 1 + 1 + 1) 61 zeroGate
  s : Blk W (h + 1 + 1 + 1 + 1) 41 zeroSaid
theorem Box5.touch {W w2 : World} {h : Nat} {g : GCells} {x : PStep} {L : SLay} {F : Nat → Prop} (hb : Box5 W h g x L) (ht : Touch F W w2) (hF : ∀ k, F k → k < h) : Box5 w2 h g x L :=
  ⟨(ht.block _ hb.g.lt fun e => by have := hF _ e; omega).trans hb.g, (ht.block _ hb.x.lt fun e => by have := hF _ e; omega).trans hb.x, (ht.block _ hb.r.lt fun e => by have := hF _ e; omega).trans hb.r, (ht.block _ hb.q.lt fun e => by have := hF _ e; omega).trans hb.q, (ht.block _ hb.s.lt fun e => by have := hF _ e; omega).trans hb.s⟩
theorem Box5.below {W w2 : World} {h : Nat} {g : GCells} {x : PStep} {L : SLay} (hb : Box5 W h g x L) (ht : Below W.heap.size W w2) : Box5 w2 h g x L := hb.touch (F := fun _ => False) (Touch.of_below ht) fun _ h => h.elim
theorem Box5.new (w : World) (g : GCells) (x : PStep) (L : SLay) : Box5 (((((w.alloc (.cells (gcells g) 61)).alloc (.cells (stepCells x L) 69)).alloc (.cells zeroSaid 41)).alloc (.cells zeroGate 61)).alloc (.cells zeroSaid 41)) w.heap.size g x L := by
  refine ⟨((((Blk.new _ _ _).alloc _).alloc _).alloc _).alloc _, ?_, ?_, ?_, ?_⟩
  · have := (((Blk.new (w.alloc (.cells (gcells g) 61)) 69 (stepCells x L)).alloc (.cells zeroSaid 41)).alloc (.cells zeroGate 61)).alloc (.cells zeroSaid 41)
    simpa using this
  · have := ((Blk.new ((w.alloc (.cells (gcells g) 61)).alloc (.cells (stepCells x L) 69)) 41 zeroSaid).alloc (.cells zeroGate 61)).alloc (.cells zeroSaid 41)
    simpa using this
  · have := (Blk.new (((w.alloc (.cells (gcells g) 61)).alloc (.cells (stepCells x L) 69)).alloc (.cells zeroSaid 41)) 61 zeroGate).alloc (.cells zeroSaid 41)
    simpa using this
  · have := Blk.new ((((w.alloc (.cells (gcells g) 61)).alloc (.cells (stepCells x L) 69)).alloc (.cells zeroSaid 41)).alloc (.cells zeroGate 61)) 41 zeroSaid
    simpa using this
theorem below5 (w : World) (a b c d e : Obj) : Below w.heap.size w (((((w.alloc a).alloc b).alloc c).alloc d).alloc e) := (((((Below.refl _ w).alloc (Nat.le_refl _) _).alloc (by simp) _).alloc (by simp; omega) _).alloc (by simp; omega) _).alloc (by simp; omega) _

set_option maxRecDepth 100000 in
set_option maxHeartbeats 20000000 in
theorem led_goes (p : Nat) (S : Drv) (F : Nat → Prop) (x : PStep) (L : SLay) (g : GCells) (w : World) (hk : 1 ≤ x.kind ∧ x.kind ≤ 8) (hx : x.Fits) (hd : Dr w p S F) (hF : ∀ k, F k → k < w.heap.size) (hS : S.Small) (B : Nat) (hB : B ≤ w.heap.size) (hxa : StepAt w B L x) (g' : GCells) (hask : ∀ W, Below w.heap.size w W → Calls Try.prog 58 #[.agg (gcells g), .int .i64 (gkind x.kind), .int .i64 x.data.length] W fun e w' => e = .returned (.tuple #[ansV true 0 0, .agg (gcells g')]) ∧ Below W.heap.size W w') :
    Calls Try.prog 36 #[.agg (gcells g), .pointer (some ⟨p, 0, none⟩), .agg (stepCells x L)] w fun e w' => 
      ∃ u, e = .returned (.tuple #[u, .agg (gcells g')]) ∧ SaidAt w' w.heap.size u (plain8 S x).2 ∧ Dr w' p (plain8 S x).1 (grow F w w') ∧ Touch F w w' := by
  obtain ⟨W, hW⟩ : ∃ W, W = ((((w.alloc (.cells (gcells g) 61)).alloc (.cells (stepCells x L) 69)).alloc (.cells zeroSaid 41)).alloc (.cells zeroGate 61)).alloc (.cells zeroSaid 41) := ⟨_, rfl⟩
  have HBX := Lib.hid (hW ▸ Box5.new w g x L)
  have HWB : Hid (Below w.heap.size w W) := Lib.hid (hW ▸ below5 w _ _ _ _ _)
  have HWS : Hid (W.heap.size = w.heap.size + 5) := Lib.hid (by rw [hW]; simp)
  unfold gcells stepCells zeroSaid zeroGate at hW
  have HW := Lib.hid hW
  have HX := Lib.hid hx
  have HD := Lib.hid hd
  have HF := Lib.hid hF
  have HS := Lib.hid hS
  have HXA := Lib.hid hxa
  have HCV : Hid (stepCells x L = #[.int .i64 x.kind, .string x.name, .string x.to, .slice L.pd x.data.length L.cd, .int .i64 x.a, .int .i64 x.b, .int .i64 x.c, .bool x.yes, .slice L.pp x.plan.length L.cp, .slice L.pr x.dirs.length L.cr, .slice L.pc x.cuts.length L.cc]) := Lib.hid rfl
  have HGV : Hid (gcells g = #[.bool g.d, .bool g.a, .slice g.pa g.pn g.pc, .int .i64 g.k, .int .i64 g.r, .bool g.laid, .int .i64 g.R, .int .i64 g.C, .int .i64 g.I]) := Lib.hid rfl
  have HASK := Lib.hid hask
  have HK := Lib.hid hk
  have hk1 := hk.1
  have hk2 := hk.2
  clear hx hd hF hS hxa hask hW hk
  unfold gcells stepCells
  go_enter Try.func36, Try.ntmps36
  go_upto_region 3 with fail
  rw [← HW.out]
  have kb0 : Blk W w.heap.size 61 (gcells g) := HBX.out.g
  have kx0 : Blk W (w.heap.size + 1) 69 (stepCells x L) := HBX.out.x
  have hwl : w.heap.size + 1 + 1 + 1 + 1 < W.heap.size := by have := HWS.out; omega
  go_cut [9, 10] (fun s9 s10 wx => ∃ g9 g10 : Nat, s9 = .pointer (some ⟨g9, 0, none⟩) ∧ s10 = .pointer (some ⟨g10, 0, none⟩) ∧ Below W.heap.size W wx ∧ (W.heap.size ≤ g9 ∧ W.heap.size ≤ g10) ∧ g10 < wx.heap.size ∧ (wx.cell? ⟨g9, 0, none⟩ = some (.bool true) ∧ wx.cell? ⟨g9, 1, none⟩ = some (.int .i64 (0)) ∧ wx.cell? ⟨g9, 2, none⟩ = some (.int .i64 (0))) ∧ wx.cell? ⟨g10, 0, none⟩ = some (.bool g'.d) ∧ wx.cell? ⟨g10, 1, none⟩ = some (.bool g'.a) ∧ wx.cell? ⟨g10, 2, none⟩ = some (.slice g'.pa g'.pn g'.pc) ∧ wx.cell? ⟨g10, 3, none⟩ = some (.int .i64 g'.k) ∧ wx.cell? ⟨g10, 4, none⟩ = some (.int .i64 g'.r) ∧ wx.cell? ⟨g10, 5, none⟩ = some (.bool g'.laid) ∧ wx.cell? ⟨g10, 6, none⟩ = some (.int .i64 g'.R) ∧ wx.cell? ⟨g10, 7, none⟩ = some (.int .i64 g'.C) ∧ wx.cell? ⟨g10, 8, none⟩ = some (.int .i64 g'.I))
  case first =>
    have HSS : Hid (∀ V : World, Below W.heap.size W V → (V.cell? ⟨w.heap.size, 0, none⟩ = some (.bool g.d) ∧ V.cell? ⟨w.heap.size, 1, none⟩ = some (.bool g.a) ∧ V.cell? ⟨w.heap.size, 2, none⟩ = some (.slice g.pa g.pn g.pc) ∧ V.cell? ⟨w.heap.size, 3, none⟩ = some (.int .i64 g.k) ∧ V.cell? ⟨w.heap.size, 4, none⟩ = some (.int .i64 g.r) ∧ V.cell? ⟨w.heap.size, 5, none⟩ = some (.bool g.laid) ∧ V.cell? ⟨w.heap.size, 6, none⟩ = some (.int .i64 g.R) ∧ V.cell? ⟨w.heap.size, 7, none⟩ = some (.int .i64 g.C) ∧ V.cell? ⟨w.heap.size, 8, none⟩ = some (.int .i64 g.I)) ∧ V.cell? ⟨w.heap.size + 1, 0, none⟩ = some (.int .i64 x.kind) ∧ V.cell? ⟨w.heap.size + 1, 1, none⟩ = some (.string x.name) ∧ V.cell? ⟨w.heap.size + 1, 2, none⟩ = some (.string x.to) ∧ V.cell? ⟨w.heap.size + 1, 3, none⟩ = some (.slice L.pd x.data.length L.cd) ∧ V.cell? ⟨w.heap.size + 1, 4, none⟩ = some (.int .i64 x.a) ∧ V.cell? ⟨w.heap.size + 1, 5, none⟩ = some (.int .i64 x.b) ∧ V.cell? ⟨w.heap.size + 1, 6, none⟩ = some (.int .i64 x.c) ∧ V.cell? ⟨w.heap.size + 1, 7, none⟩ = some (.bool x.yes) ∧ V.cell? ⟨w.heap.size + 1, 8, none⟩ = some (.slice L.pp x.plan.length L.cp) ∧ V.cell? ⟨w.heap.size + 1, 9, none⟩ = some (.slice L.pr x.dirs.length L.cr) ∧ V.cell? ⟨w.heap.size + 1, 10, none⟩ = some (.slice L.pc x.cuts.length L.cc)) := Lib.hid fun V hV => ⟨gate_cells (kb0.below hV kb0.lt), step_cells' (kx0.below hV kx0.lt)⟩
    have kl0 : Below W.heap.size W W := Below.refl _ _
    clear kb0 kx0
    go_region_held3 (fun w' => (w'.cell? ⟨w.heap.size, 0, none⟩ = some (.bool g.d) ∧ w'.cell? ⟨w.heap.size, 1, none⟩ = some (.bool g.a) ∧ w'.cell? ⟨w.heap.size, 2, none⟩ = some (.slice g.pa g.pn g.pc) ∧ w'.cell? ⟨w.heap.size, 3, none⟩ = some (.int .i64 g.k) ∧ w'.cell? ⟨w.heap.size, 4, none⟩ = some (.int .i64 g.r) ∧ w'.cell? ⟨w.heap.size, 5, none⟩ = some (.bool g.laid) ∧ w'.cell? ⟨w.heap.size, 6, none⟩ = some (.int .i64 g.R) ∧ w'.cell? ⟨w.heap.size, 7, none⟩ = some (.int .i64 g.C) ∧ w'.cell? ⟨w.heap.size, 8, none⟩ = some (.int .i64 g.I)) ∧ w'.cell? ⟨w.heap.size + 1, 0, none⟩ = some (.int .i64 x.kind) ∧ w'.cell? ⟨w.heap.size + 1, 1, none⟩ = some (.string x.name) ∧ w'.cell? ⟨w.heap.size + 1, 2, none⟩ = some (.string x.to) ∧ w'.cell? ⟨w.heap.size + 1, 3, none⟩ = some (.slice L.pd x.data.length L.cd) ∧ w'.cell? ⟨w.heap.size + 1, 4, none⟩ = some (.int .i64 x.a) ∧ w'.cell? ⟨w.heap.size + 1, 5, none⟩ = some (.int .i64 x.b) ∧ w'.cell? ⟨w.heap.size + 1, 6, none⟩ = some (.int .i64 x.c) ∧ w'.cell? ⟨w.heap.size + 1, 7, none⟩ = some (.bool x.yes) ∧ w'.cell? ⟨w.heap.size + 1, 8, none⟩ = some (.slice L.pp x.plan.length L.cp) ∧ w'.cell? ⟨w.heap.size + 1, 9, none⟩ = some (.slice L.pr x.dirs.length L.cr) ∧ w'.cell? ⟨w.heap.size + 1, 10, none⟩ = some (.slice L.pc x.cuts.length L.cc)) (first | exact HSS.out _ (by repeat (first | with_reducible assumption | with_reducible refine Below.alloc ?_ (by (try simp only [alloc_size, size_drew1, size_set]); omega) _ | with_reducible refine Below.setCell ?_ (by (try simp only [alloc_size, size_drew1, size_set]); omega) _ | with_reducible refine below_drew1 ?_)) | go_keep)
      (first
        | (go_at_call 59; rw [← HCV.out]; refine (kind_any x L _).mono ?_; rintro e v1 ⟨rfl, hb1⟩; have hz1 := hb1.size; (try simp only [alloc_size, size_drew1, Nat.add_one_le_iff] at hz1); have hb1' : Below W.heap.size W v1 := Below.trans (by repeat (first | exact Below.refl _ _ | with_reducible refine below_drew1 ?_ | with_reducible refine Below.alloc ?_ (by (try simp only [alloc_size, size_drew1, size_set]); omega) _)) (hb1.mono (by (try simp only [alloc_size, size_drew1, size_set]); omega)); have hzW1 := hb1'.size; (try (have t11 : W.heap.size < v1.heap.size := (by omega))); (try (have t12 : W.heap.size + 1 < v1.heap.size := (by omega))); (try (have e1a := Blk.below (blk_last W.drew W.heap.size _ _ rfl) hb1 (by (try simp only [alloc_size, size_drew1, size_set]); omega); have e1ac := e1a.cell; have e1af := e1a.frozen)); (try (have e1b := Blk.below (Blk.alloc (blk_last W.drew W.heap.size _ _ rfl) _) hb1 (by (try simp only [alloc_size, size_drew1, size_set]); omega); have e1bc := e1b.cell; have e1bf := e1b.frozen; have e1c := Blk.below (blk_last (World.alloc W.drew _) (W.heap.size + 1) _ _ (by simp only [alloc_size, size_drew1])) hb1 (by (try simp only [alloc_size, size_drew1, size_set]); omega); have e1cc := e1c.cell; have e1cf := e1c.frozen)); have HB1 := Lib.hid hb1'; clear hb1)
        | (go_at_call 58; rw [← HGV.out]; refine (HASK.out _ (by (refine Below.trans HWB.out (Below.mono (Below.trans HB1.out ?_) HWB.out.size); repeat (first | exact Below.refl _ _ | with_reducible refine Below.alloc ?_ (by (try simp only [alloc_size, size_drew1, size_set]); omega) _)))).mono ?_; rintro e v2 ⟨rfl, hb2⟩; unfold gcells ansV; have hz2 := hb2.size; (try simp only [alloc_size, Nat.add_one_le_iff] at hz2); have hb2' : Below W.heap.size W v2 := Below.trans (Below.trans HB1.out (by repeat (first | exact Below.refl _ _ | with_reducible refine Below.alloc ?_ (by (try simp only [alloc_size, size_drew1, size_set]); omega) _))) (hb2.mono (by (try simp only [alloc_size, size_drew1, size_set]); omega)); (try (have e2a := Blk.below (blk_last v1 v1.heap.size _ _ rfl) hb2 (by (try simp only [alloc_size, size_drew1, size_set]); omega); have e2ac := e2a.cell; have e2af := e2a.frozen)); (try (have e2b := Blk.below (Blk.alloc (blk_last v1 v1.heap.size _ _ rfl) _) hb2 (by (try simp only [alloc_size, size_drew1, size_set]); omega); have e2bc := e2b.cell; have e2bf := e2b.frozen; have e2c := Blk.below (blk_last (World.alloc v1 _) (v1.heap.size + 1) _ _ (by simp only [alloc_size, size_drew1])) hb2 (by (try simp only [alloc_size, size_drew1, size_set]); omega); have e2cc := e2c.cell; have e2cf := e2c.frozen)); (try (have fe1a := Blk.below (by first | exact e1a | exact Blk.alloc e1a _ | exact Blk.alloc (Blk.alloc e1a _) _) hb2 (by (try simp only [alloc_size, size_drew1, size_set]); omega); have fe1ac := fe1a.cell; have fe1af := fe1a.frozen)); (try (have fe1b := Blk.below (by first | exact e1b | exact Blk.alloc e1b _ | exact Blk.alloc (Blk.alloc e1b _) _) hb2 (by (try simp only [alloc_size, size_drew1, size_set]); omega); have fe1bc := fe1b.cell; have fe1bf := fe1b.frozen)); (try (have fe1c := Blk.below (by first | exact e1c | exact Blk.alloc e1c _ | exact Blk.alloc (Blk.alloc e1c _) _) hb2 (by (try simp only [alloc_size, size_drew1, size_set]); omega); have fe1cc := fe1c.cell; have fe1cf := fe1c.frozen)); have HB2 := Lib.hid hb2'; have hzW2 := hb2'.size; (try (have t21 : W.heap.size < v2.heap.size := (by omega))); (try (have t22 : W.heap.size + 1 < v2.heap.size := (by omega))); (try (have t23 : v1.heap.size < v2.heap.size := (by omega))); (try (have t24 : v1.heap.size + 1 < v2.heap.size := (by omega))); clear hb2))
    all_goals
      go_wp2_with fail
      go_meet
      refine ⟨_, _, rfl, rfl, (by repeat (first | with_reducible assumption | with_reducible refine Below.alloc ?_ (by (try simp only [alloc_size, size_drew1, size_set]); omega) _ | with_reducible refine Below.setCell ?_ (by (try simp only [alloc_size, size_drew1, size_set]); omega) _ | with_reducible refine below_drew1 ?_)), (by (try simp only [alloc_size, size_drew1, size_set]); omega), (by (try simp only [alloc_size, size_drew1, size_set]); omega), ⟨?_, ?_, ?_⟩, ?_, ?_, ?_, ?_, ?_, ?_, ?_, ?_, ?_⟩
      all_goals (first | (go_simp; done) | (simp [go_sem, *]; done) | ((repeat (rw [World.cell?_setCell_far _ _ _ _ (by first | (simp; done) | (simp; omega))])); first | (go_simp; done) | (simp [go_sem, *]; done)))
  case rest =>
    obtain ⟨g9, g10, rfl, rfl, hbc, hgl, hgu, ⟨n0, n1, n2⟩, m0, m1, m2, m3, m4, m5, m6, m7, m8⟩ := hcut
    have HBC := Lib.hid hbc
    have hsc := hbc.size
    have HB5 := Lib.hid (HBX.out.below hbc)
    have HB5d := Lib.hid (HBX.out.below (below_drewN hbc 1))
    have HBd : Hid (Below w.heap.size w wc.drew) := Lib.hid (HWB.out.trans (below_drewN (hbc.mono HWB.out.size) 1))
    have hws := HWS.out
    have hne1 : ¬ (w.heap.size + 1 + 1 = g10) := by omega
    have hne2 : ¬ (w.heap.size + 1 + 1 + 1 = g10) := by omega
    have hne3 : ¬ (w.heap.size + 1 + 1 = w.heap.size) := by omega
    have hne4 : ¬ (w.heap.size + 1 + 1 + 1 = w.heap.size + 1) := by omega
    have HWS2 := Lib.hid hws
    have hwsl : w.heap.size + 1 + 1 + 1 < wc.heap.size := by omega
    clear hws
    clear hbc kb0 kx0
    go_wp2_with fail
    have kx5 : Blk wc.drew (w.heap.size + 1) 69 (stepCells x L) := HB5.out.x
    have km5 : (wc.drew.cell? ⟨g10, 0, none⟩ = some (.bool g'.d) ∧ wc.drew.cell? ⟨g10, 1, none⟩ = some (.bool g'.a) ∧ wc.drew.cell? ⟨g10, 2, none⟩ = some (.slice g'.pa g'.pn g'.pc) ∧ wc.drew.cell? ⟨g10, 3, none⟩ = some (.int .i64 g'.k) ∧ wc.drew.cell? ⟨g10, 4, none⟩ = some (.int .i64 g'.r) ∧ wc.drew.cell? ⟨g10, 5, none⟩ = some (.bool g'.laid) ∧ wc.drew.cell? ⟨g10, 6, none⟩ = some (.int .i64 g'.R) ∧ wc.drew.cell? ⟨g10, 7, none⟩ = some (.int .i64 g'.C) ∧ wc.drew.cell? ⟨g10, 8, none⟩ = some (.int .i64 g'.I)) := ⟨m0, m1, m2, m3, m4, m5, m6, m7, m8⟩
    have kx6 : Blk wc (w.heap.size + 1) 69 (stepCells x L) := HB5.out.x
    have km6 : (wc.cell? ⟨g10, 0, none⟩ = some (.bool g'.d) ∧ wc.cell? ⟨g10, 1, none⟩ = some (.bool g'.a) ∧ wc.cell? ⟨g10, 2, none⟩ = some (.slice g'.pa g'.pn g'.pc) ∧ wc.cell? ⟨g10, 3, none⟩ = some (.int .i64 g'.k) ∧ wc.cell? ⟨g10, 4, none⟩ = some (.int .i64 g'.r) ∧ wc.cell? ⟨g10, 5, none⟩ = some (.bool g'.laid) ∧ wc.cell? ⟨g10, 6, none⟩ = some (.int .i64 g'.R) ∧ wc.cell? ⟨g10, 7, none⟩ = some (.int .i64 g'.C) ∧ wc.cell? ⟨g10, 8, none⟩ = some (.int .i64 g'.I)) := ⟨m0, m1, m2, m3, m4, m5, m6, m7, m8⟩
    go_region_held3 (fun w' => (w'.cell? ⟨w.heap.size + 1, 0, none⟩ = some (.int .i64 x.kind) ∧ w'.cell? ⟨w.heap.size + 1, 1, none⟩ = some (.string x.name) ∧ w'.cell? ⟨w.heap.size + 1, 2, none⟩ = some (.string x.to) ∧ w'.cell? ⟨w.heap.size + 1, 3, none⟩ = some (.slice L.pd x.data.length L.cd) ∧ w'.cell? ⟨w.heap.size + 1, 4, none⟩ = some (.int .i64 x.a) ∧ w'.cell? ⟨w.heap.size + 1, 5, none⟩ = some (.int .i64 x.b) ∧ w'.cell? ⟨w.heap.size + 1, 6, none⟩ = some (.int .i64 x.c) ∧ w'.cell? ⟨w.heap.size + 1, 7, none⟩ = some (.bool x.yes) ∧ w'.cell? ⟨w.heap.size + 1, 8, none⟩ = some (.slice L.pp x.plan.length L.cp) ∧ w'.cell? ⟨w.heap.size + 1, 9, none⟩ = some (.slice L.pr x.dirs.length L.cr) ∧ w'.cell? ⟨w.heap.size + 1, 10, none⟩ = some (.slice L.pc x.cuts.length L.cc)) ∧ (w'.cell? ⟨g10, 0, none⟩ = some (.bool g'.d) ∧ w'.cell? ⟨g10, 1, none⟩ = some (.bool g'.a) ∧ w'.cell? ⟨g10, 2, none⟩ = some (.slice g'.pa g'.pn g'.pc) ∧ w'.cell? ⟨g10, 3, none⟩ = some (.int .i64 g'.k) ∧ w'.cell? ⟨g10, 4, none⟩ = some (.int .i64 g'.r) ∧ w'.cell? ⟨g10, 5, none⟩ = some (.bool g'.laid) ∧ w'.cell? ⟨g10, 6, none⟩ = some (.int .i64 g'.R) ∧ w'.cell? ⟨g10, 7, none⟩ = some (.int .i64 g'.C) ∧ w'.cell? ⟨g10, 8, none⟩ = some (.int .i64 g'.I))) (first | exact ⟨step_cells' (by with_reducible assumption), (by with_reducible assumption)⟩ | go_keep)
      (first | (go_at_call 41; rw [← HCV.out]; refine (plain8_any p S F x L wc.drew B HK.out HX.out (HD.out.below (HWB.out.trans (below_drewN (HBC.out.mono HWB.out.size) 1))) (fun k hk => Nat.lt_of_lt_of_le (HF.out k hk) (Nat.le_trans HWB.out.size hsc)) HS.out (Nat.le_trans hB (Nat.le_trans HWB.out.size hsc)) (HXA.out.far fun k hk => (HWB.out.trans (HBC.out.mono HWB.out.size)).block k (by omega))).mono ?_; rintro e v5 ⟨u, rfl, hs5, hd5, ht5⟩; have HS5 := Lib.hid hs5; have HD5 := Lib.hid hd5; have HT5 := Lib.hid ht5; have kx7 : Blk v5 (w.heap.size + 1) 69 (stepCells x L) := (ht5.block _ kx5.lt (fun hf => absurd (HF.out _ hf) (by omega))).trans kx5; have ke7 : v5.heap[g10]? = wc.heap[g10]? := ht5.block g10 hgu (fun hf => absurd (HF.out _ hf) (by omega)); have km7 : (v5.cell? ⟨g10, 0, none⟩ = some (.bool g'.d) ∧ v5.cell? ⟨g10, 1, none⟩ = some (.bool g'.a) ∧ v5.cell? ⟨g10, 2, none⟩ = some (.slice g'.pa g'.pn g'.pc) ∧ v5.cell? ⟨g10, 3, none⟩ = some (.int .i64 g'.k) ∧ v5.cell? ⟨g10, 4, none⟩ = some (.int .i64 g'.r) ∧ v5.cell? ⟨g10, 5, none⟩ = some (.bool g'.laid) ∧ v5.cell? ⟨g10, 6, none⟩ = some (.int .i64 g'.R) ∧ v5.cell? ⟨g10, 7, none⟩ = some (.int .i64 g'.C) ∧ v5.cell? ⟨g10, 8, none⟩ = some (.int .i64 g'.I)) := ⟨(World.cell?_of_block ke7).trans m0, (World.cell?_of_block ke7).trans m1, (World.cell?_of_block ke7).trans m2, (World.cell?_of_block ke7).trans m3, (World.cell?_of_block ke7).trans m4, (World.cell?_of_block ke7).trans m5, (World.cell?_of_block ke7).trans m6, (World.cell?_of_block ke7).trans m7, (World.cell?_of_block ke7).trans m8⟩; have HB7 := Lib.hid (HB5d.out.touch ht5 HF.out); obtain ⟨dv, mv, fv, rfl, r1, r2, r3⟩ := hs5; obtain ⟨da, dc, rfl, _⟩ := own_shape r1; obtain ⟨ma, mc, rfl, _⟩ := own_shape r2; obtain ⟨fa, fc, rfl, _⟩ := r3.shape; obtain ⟨sd, hsd⟩ : ∃ sd, sd = (plain8 S x).2 := ⟨_, rfl⟩; rw [← hsd] at HS5 ⊢; obtain ⟨E, hE⟩ : ∃ E, E = sd.e := ⟨_, rfl⟩; obtain ⟨NN, hNN⟩ : ∃ E, E = sd.n := ⟨_, rfl⟩; obtain ⟨YY, hYY⟩ : ∃ E, E = sd.yes := ⟨_, rfl⟩; obtain ⟨dn, hdn⟩ : ∃ E, E = sd.data.length := ⟨_, rfl⟩; obtain ⟨mn, hmn⟩ : ∃ E, E = sd.names.length := ⟨_, rfl⟩; obtain ⟨fn, hfn⟩ : ∃ E, E = sd.files.length := ⟨_, rfl⟩; rw [← hE, ← hNN, ← hYY, ← hdn, ← hmn, ← hfn] at HS5 ⊢; have HSD := Lib.hid hsd; clear r1 r2 r3 hE hNN hYY hdn hmn hfn hsd; have r0 : v5.cell? ⟨w.heap.size + 1 + 1, 0, none⟩ = some (.int .i64 0) := HB7.out.r.cell 0; have r1 : v5.cell? ⟨w.heap.size + 1 + 1, 1, none⟩ = some (.slice none 0 0) := HB7.out.r.cell 1; have r2 : v5.cell? ⟨w.heap.size + 1 + 1, 2, none⟩ = some (.slice none 0 0) := HB7.out.r.cell 2; have r3 : v5.cell? ⟨w.heap.size + 1 + 1, 3, none⟩ = some (.slice none 0 0) := HB7.out.r.cell 3; have r4 : v5.cell? ⟨w.heap.size + 1 + 1, 4, none⟩ = some (.int .i64 0) := HB7.out.r.cell 4; have r5 : v5.cell? ⟨w.heap.size + 1 + 1, 5, none⟩ = some (.bool false) := HB7.out.r.cell 5; have rf : ∀ i, v5.frozen? ⟨w.heap.size + 1 + 1, i, none⟩ = false := HB7.out.r.frozen; have q0 : v5.cell? ⟨w.heap.size + 1 + 1 + 1, 0, none⟩ = some (.bool false) := HB7.out.q.cell 0; have q1 : v5.cell? ⟨w.heap.size + 1 + 1 + 1, 1, none⟩ = some (.bool false) := HB7.out.q.cell 1; have q2 : v5.cell? ⟨w.heap.size + 1 + 1 + 1, 2, none⟩ = some (.slice none 0 0) := HB7.out.q.cell 2; have q3 : v5.cell? ⟨w.heap.size + 1 + 1 + 1, 3, none⟩ = some (.int .i64 0) := HB7.out.q.cell 3; have q4 : v5.cell? ⟨w.heap.size + 1 + 1 + 1, 4, none⟩ = some (.int .i64 0) := HB7.out.q.cell 4; have q5 : v5.cell? ⟨w.heap.size + 1 + 1 + 1, 5, none⟩ = some (.bool false) := HB7.out.q.cell 5; have q6 : v5.cell? ⟨w.heap.size + 1 + 1 + 1, 6, none⟩ = some (.int .i64 0) := HB7.out.q.cell 6; have q7 : v5.cell? ⟨w.heap.size + 1 + 1 + 1, 7, none⟩ = some (.int .i64 0) := HB7.out.q.cell 7; have q8 : v5.cell? ⟨w.heap.size + 1 + 1 + 1, 8, none⟩ = some (.int .i64 0) := HB7.out.q.cell 8; have qf : ∀ i, v5.frozen? ⟨w.heap.size + 1 + 1 + 1, i, none⟩ = false := HB7.out.q.frozen; clear hd5 ht5 ke7))
    go_wp2
    refine bodyPost_ret (v := .tuple #[.agg #[.int .i64 E, .slice da dn dc, .slice ma mn mc, .slice fa fn fc, .int .i64 NN, .bool YY], .agg #[.bool g'.d, .bool g'.a, .slice g'.pa g'.pn g'.pc, .int .i64 g'.k, .int .i64 g'.r, .bool g'.laid, .int .i64 g'.R, .int .i64 g'.C, .int .i64 g'.I]]) (by simp only [results, Try.results36]; go_simp) rfl ?_
    have GB : ∀ k, (k = w.heap.size + 1 + 1 ∨ k = w.heap.size + 1 + 1 + 1) → w.heap.size ≤ k ∧ k < wc.drew.heap.size := fun k hk => by rcases hk with rfl | rfl <;> (rw [size_drew1]; omega)
    rw [← HSD.out]
    refine ⟨_, rfl, ?_, ?_⟩
    · refine SaidAt.base (HS5.out.touch (G := fun k => k = w.heap.size + 1 + 1 ∨ k = w.heap.size + 1 + 1 + 1) ?_ (fun k hk => (GB k hk).2)) HBd.out.size
      iterate 15 (with_reducible refine Touch.set ?_ (by simp) _)
      exact Touch.refl _ _
    · refine frame_dr (G := fun k => k = w.heap.size + 1 + 1 ∨ k = w.heap.size + 1 + 1 + 1) HBd.out HD5.out HT5.out ?_ (by simp only [size_set]) HF.out GB
      iterate 15 (with_reducible refine Touch.set ?_ (by simp) _)
      exact Touch.refl _ _

set_option maxRecDepth 100000 in
set_option maxHeartbeats 20000000 in
theorem led_stop (p : Nat) (S : Drv) (F : Nat → Prop) (x : PStep) (L : SLay) (g : GCells) (w : World) (hk : 1 ≤ x.kind ∧ x.kind ≤ 8) (hx : x.Fits) (hd : Dr w p S F) (hF : ∀ k, F k → k < w.heap.size) (hS : S.Small) (B : Nat) (hB : B ≤ w.heap.size) (hxa : StepAt w B L x) (by_ z : Int) (hby : ¬ 0 < by_) (g' : GCells) (hask : ∀ W, Below w.heap.size w W → Calls Try.prog 58 #[.agg (gcells g), .int .i64 (gkind x.kind), .int .i64 x.data.length] W fun e w' => e = .returned (.tuple #[ansV false by_ z, .agg (gcells g')]) ∧ Below W.heap.size W w') :
    Calls Try.prog 36 #[.agg (gcells g), .pointer (some ⟨p, 0, none⟩), .agg (stepCells x L)] w fun e w' => 
      ∃ u, e = .returned (.tuple #[u, .agg (gcells g')]) ∧ SaidAt w' w.heap.size u (.code z) ∧ Below w.heap.size w w' := by
  obtain ⟨W, hW⟩ : ∃ W, W = ((((w.alloc (.cells (gcells g) 61)).alloc (.cells (stepCells x L) 69)).alloc (.cells zeroSaid 41)).alloc (.cells zeroGate 61)).alloc (.cells zeroSaid 41) := ⟨_, rfl⟩
  have HBX := Lib.hid (hW ▸ Box5.new w g x L)
  have HWB : Hid (Below w.heap.size w W) := Lib.hid (hW ▸ below5 w _ _ _ _ _)
  have HWS : Hid (W.heap.size = w.heap.size + 5) := Lib.hid (by rw [hW]; simp)
  unfold gcells stepCells zeroSaid zeroGate at hW
  have HW := Lib.hid hW
  have HX := Lib.hid hx
  have HD := Lib.hid hd
  have HF := Lib.hid hF
  have HS := Lib.hid hS
  have HXA := Lib.hid hxa
  have HCV : Hid (stepCells x L = #[.int .i64 x.kind, .string x.name, .string x.to, .slice L.pd x.data.length L.cd, .int .i64 x.a, .int .i64 x.b, .int .i64 x.c, .bool x.yes, .slice L.pp x.plan.length L.cp, .slice L.pr x.dirs.length L.cr, .slice L.pc x.cuts.length L.cc]) := Lib.hid rfl
  have HGV : Hid (gcells g = #[.bool g.d, .bool g.a, .slice g.pa g.pn g.pc, .int .i64 g.k, .int .i64 g.r, .bool g.laid, .int .i64 g.R, .int .i64 g.C, .int .i64 g.I]) := Lib.hid rfl
  have HASK := Lib.hid hask
  have HK := Lib.hid hk
  have hk1 := hk.1
  have hk2 := hk.2
  have hby2 : by_ ≤ 0 := by omega
  clear hx hd hF hS hxa hask hW hk
  unfold gcells stepCells
  go_enter Try.func36, Try.ntmps36
  go_upto_region 3 with fail
  rw [← HW.out]
  have kb0 : Blk W w.heap.size 61 (gcells g) := HBX.out.g
  have kx0 : Blk W (w.heap.size + 1) 69 (stepCells x L) := HBX.out.x
  have hwl : w.heap.size + 1 + 1 + 1 + 1 < W.heap.size := by have := HWS.out; omega
  go_cut [9, 10] (fun s9 s10 wx => ∃ g9 g10 : Nat, s9 = .pointer (some ⟨g9, 0, none⟩) ∧ s10 = .pointer (some ⟨g10, 0, none⟩) ∧ Below W.heap.size W wx ∧ (W.heap.size ≤ g9 ∧ W.heap.size ≤ g10) ∧ g10 < wx.heap.size ∧ (wx.cell? ⟨g9, 0, none⟩ = some (.bool false) ∧ wx.cell? ⟨g9, 1, none⟩ = some (.int .i64 (by_)) ∧ wx.cell? ⟨g9, 2, none⟩ = some (.int .i64 (z))) ∧ wx.cell? ⟨g10, 0, none⟩ = some (.bool g'.d) ∧ wx.cell? ⟨g10, 1, none⟩ = some (.bool g'.a) ∧ wx.cell? ⟨g10, 2, none⟩ = some (.slice g'.pa g'.pn g'.pc) ∧ wx.cell? ⟨g10, 3, none⟩ = some (.int .i64 g'.k) ∧ wx.cell? ⟨g10, 4, none⟩ = some (.int .i64 g'.r) ∧ wx.cell? ⟨g10, 5, none⟩ = some (.bool g'.laid) ∧ wx.cell? ⟨g10, 6, none⟩ = some (.int .i64 g'.R) ∧ wx.cell? ⟨g10, 7, none⟩ = some (.int .i64 g'.C) ∧ wx.cell? ⟨g10, 8, none⟩ = some (.int .i64 g'.I))
  case first =>
    have HSS : Hid (∀ V : World, Below W.heap.size W V → (V.cell? ⟨w.heap.size, 0, none⟩ = some (.bool g.d) ∧ V.cell? ⟨w.heap.size, 1, none⟩ = some (.bool g.a) ∧ V.cell? ⟨w.heap.size, 2, none⟩ = some (.slice g.pa g.pn g.pc) ∧ V.cell? ⟨w.heap.size, 3, none⟩ = some (.int .i64 g.k) ∧ V.cell? ⟨w.heap.size, 4, none⟩ = some (.int .i64 g.r) ∧ V.cell? ⟨w.heap.size, 5, none⟩ = some (.bool g.laid) ∧ V.cell? ⟨w.heap.size, 6, none⟩ = some (.int .i64 g.R) ∧ V.cell? ⟨w.heap.size, 7, none⟩ = some (.int .i64 g.C) ∧ V.cell? ⟨w.heap.size, 8, none⟩ = some (.int .i64 g.I)) ∧ V.cell? ⟨w.heap.size + 1, 0, none⟩ = some (.int .i64 x.kind) ∧ V.cell? ⟨w.heap.size + 1, 1, none⟩ = some (.string x.name) ∧ V.cell? ⟨w.heap.size + 1, 2, none⟩ = some (.string x.to) ∧ V.cell? ⟨w.heap.size + 1, 3, none⟩ = some (.slice L.pd x.data.length L.cd) ∧ V.cell? ⟨w.heap.size + 1, 4, none⟩ = some (.int .i64 x.a) ∧ V.cell? ⟨w.heap.size + 1, 5, none⟩ = some (.int .i64 x.b) ∧ V.cell? ⟨w.heap.size + 1, 6, none⟩ = some (.int .i64 x.c) ∧ V.cell? ⟨w.heap.size + 1, 7, none⟩ = some (.bool x.yes) ∧ V.cell? ⟨w.heap.size + 1, 8, none⟩ = some (.slice L.pp x.plan.length L.cp) ∧ V.cell? ⟨w.heap.size + 1, 9, none⟩ = some (.slice L.pr x.dirs.length L.cr) ∧ V.cell? ⟨w.heap.size + 1, 10, none⟩ = some (.slice L.pc x.cuts.length L.cc)) := Lib.hid fun V hV => ⟨gate_cells (kb0.below hV kb0.lt), step_cells' (kx0.below hV kx0.lt)⟩
    have kl0 : Below W.heap.size W W := Below.refl _ _
    clear kb0 kx0
    go_region_held3 (fun w' => (w'.cell? ⟨w.heap.size, 0, none⟩ = some (.bool g.d) ∧ w'.cell? ⟨w.heap.size, 1, none⟩ = some (.bool g.a) ∧ w'.cell? ⟨w.heap.size, 2, none⟩ = some (.slice g.pa g.pn g.pc) ∧ w'.cell? ⟨w.heap.size, 3, none⟩ = some (.int .i64 g.k) ∧ w'.cell? ⟨w.heap.size, 4, none⟩ = some (.int .i64 g.r) ∧ w'.cell? ⟨w.heap.size, 5, none⟩ = some (.bool g.laid) ∧ w'.cell? ⟨w.heap.size, 6, none⟩ = some (.int .i64 g.R) ∧ w'.cell? ⟨w.heap.size, 7, none⟩ = some (.int .i64 g.C) ∧ w'.cell? ⟨w.heap.size, 8, none⟩ = some (.int .i64 g.I)) ∧ w'.cell? ⟨w.heap.size + 1, 0, none⟩ = some (.int .i64 x.kind) ∧ w'.cell? ⟨w.heap.size + 1, 1, none⟩ = some (.string x.name) ∧ w'.cell? ⟨w.heap.size + 1, 2, none⟩ = some (.string x.to) ∧ w'.cell? ⟨w.heap.size + 1, 3, none⟩ = some (.slice L.pd x.data.length L.cd) ∧ w'.cell? ⟨w.heap.size + 1, 4, none⟩ = some (.int .i64 x.a) ∧ w'.cell? ⟨w.heap.size + 1, 5, none⟩ = some (.int .i64 x.b) ∧ w'.cell? ⟨w.heap.size + 1, 6, none⟩ = some (.int .i64 x.c) ∧ w'.cell? ⟨w.heap.size + 1, 7, none⟩ = some (.bool x.yes) ∧ w'.cell? ⟨w.heap.size + 1, 8, none⟩ = some (.slice L.pp x.plan.length L.cp) ∧ w'.cell? ⟨w.heap.size + 1, 9, none⟩ = some (.slice L.pr x.dirs.length L.cr) ∧ w'.cell? ⟨w.heap.size + 1, 10, none⟩ = some (.slice L.pc x.cuts.length L.cc)) (first | exact HSS.out _ (by repeat (first | with_reducible assumption | with_reducible refine Below.alloc ?_ (by (try simp only [alloc_size, size_drew1, size_set]); omega) _ | with_reducible refine Below.setCell ?_ (by (try simp only [alloc_size, size_drew1, size_set]); omega) _ | with_reducible refine below_drew1 ?_)) | go_keep)
      (first
        | (go_at_call 59; rw [← HCV.out]; refine (kind_any x L _).mono ?_; rintro e v1 ⟨rfl, hb1⟩; have hz1 := hb1.size; (try simp only [alloc_size, size_drew1, Nat.add_one_le_iff] at hz1); have hb1' : Below W.heap.size W v1 := Below.trans (by repeat (first | exact Below.refl _ _ | with_reducible refine below_drew1 ?_ | with_reducible refine Below.alloc ?_ (by (try simp only [alloc_size, size_drew1, size_set]); omega) _)) (hb1.mono (by (try simp only [alloc_size, size_drew1, size_set]); omega)); have hzW1 := hb1'.size; (try (have t11 : W.heap.size < v1.heap.size := (by omega))); (try (have t12 : W.heap.size + 1 < v1.heap.size := (by omega))); (try (have e1a := Blk.below (blk_last W.drew W.heap.size _ _ rfl) hb1 (by (try simp only [alloc_size, size_drew1, size_set]); omega); have e1ac := e1a.cell; have e1af := e1a.frozen)); (try (have e1b := Blk.below (Blk.alloc (blk_last W.drew W.heap.size _ _ rfl) _) hb1 (by (try simp only [alloc_size, size_drew1, size_set]); omega); have e1bc := e1b.cell; have e1bf := e1b.frozen; have e1c := Blk.below (blk_last (World.alloc W.drew _) (W.heap.size + 1) _ _ (by simp only [alloc_size, size_drew1])) hb1 (by (try simp only [alloc_size, size_drew1, size_set]); omega); have e1cc := e1c.cell; have e1cf := e1c.frozen)); have HB1 := Lib.hid hb1'; clear hb1)
        | (go_at_call 58; rw [← HGV.out]; refine (HASK.out _ (by (refine Below.trans HWB.out (Below.mono (Below.trans HB1.out ?_) HWB.out.size); repeat (first | exact Below.refl _ _ | with_reducible refine Below.alloc ?_ (by (try simp only [alloc_size, size_drew1, size_set]); omega) _)))).mono ?_; rintro e v2 ⟨rfl, hb2⟩; unfold gcells ansV; have hz2 := hb2.size; (try simp only [alloc_size, Nat.add_one_le_iff] at hz2); have hb2' : Below W.heap.size W v2 := Below.trans (Below.trans HB1.out (by repeat (first | exact Below.refl _ _ | with_reducible refine Below.alloc ?_ (by (try simp only [alloc_size, size_drew1, size_set]); omega) _))) (hb2.mono (by (try simp only [alloc_size, size_drew1, size_set]); omega)); (try (have e2a := Blk.below (blk_last v1 v1.heap.size _ _ rfl) hb2 (by (try simp only [alloc_size, size_drew1, size_set]); omega); have e2ac := e2a.cell; have e2af := e2a.frozen)); (try (have e2b := Blk.below (Blk.alloc (blk_last v1 v1.heap.size _ _ rfl) _) hb2 (by (try simp only [alloc_size, size_drew1, size_set]); omega); have e2bc := e2b.cell; have e2bf := e2b.frozen; have e2c := Blk.below (blk_last (World.alloc v1 _) (v1.heap.size + 1) _ _ (by simp only [alloc_size, size_drew1])) hb2 (by (try simp only [alloc_size, size_drew1, size_set]); omega); have e2cc := e2c.cell; have e2cf := e2c.frozen)); (try (have fe1a := Blk.below (by first | exact e1a | exact Blk.alloc e1a _ | exact Blk.alloc (Blk.alloc e1a _) _) hb2 (by (try simp only [alloc_size, size_drew1, size_set]); omega); have fe1ac := fe1a.cell; have fe1af := fe1a.frozen)); (try (have fe1b := Blk.below (by first | exact e1b | exact Blk.alloc e1b _ | exact Blk.alloc (Blk.alloc e1b _) _) hb2 (by (try simp only [alloc_size, size_drew1, size_set]); omega); have fe1bc := fe1b.cell; have fe1bf := fe1b.frozen)); (try (have fe1c := Blk.below (by first | exact e1c | exact Blk.alloc e1c _ | exact Blk.alloc (Blk.alloc e1c _) _) hb2 (by (try simp only [alloc_size, size_drew1, size_set]); omega); have fe1cc := fe1c.cell; have fe1cf := fe1c.frozen)); have HB2 := Lib.hid hb2'; have hzW2 := hb2'.size; (try (have t21 : W.heap.size < v2.heap.size := (by omega))); (try (have t22 : W.heap.size + 1 < v2.heap.size := (by omega))); (try (have t23 : v1.heap.size < v2.heap.size := (by omega))); (try (have t24 : v1.heap.size + 1 < v2.heap.size := (by omega))); clear hb2))
    all_goals
      go_wp2_with fail
      go_meet
      refine ⟨_, _, rfl, rfl, (by repeat (first | with_reducible assumption | with_reducible refine Below.alloc ?_ (by (try simp only [alloc_size, size_drew1, size_set]); omega) _ | with_reducible refine Below.setCell ?_ (by (try simp only [alloc_size, size_drew1, size_set]); omega) _ | with_reducible refine below_drew1 ?_)), (by (try simp only [alloc_size, size_drew1, size_set]); omega), (by (try simp only [alloc_size, size_drew1, size_set]); omega), ⟨?_, ?_, ?_⟩, ?_, ?_, ?_, ?_, ?_, ?_, ?_, ?_, ?_⟩
      all_goals (first | (go_simp; done) | (simp [go_sem, *]; done) | ((repeat (rw [World.cell?_setCell_far _ _ _ _ (by first | (simp; done) | (simp; omega))])); first | (go_simp; done) | (simp [go_sem, *]; done)))
  case rest =>
    obtain ⟨g9, g10, rfl, rfl, hbc, hgl, hgu, ⟨n0, n1, n2⟩, m0, m1, m2, m3, m4, m5, m6, m7, m8⟩ := hcut
    have HBC := Lib.hid hbc
    have hsc := hbc.size
    have HB5 := Lib.hid (HBX.out.below hbc)
    have HBd : Hid (Below w.heap.size w wc) := Lib.hid (HWB.out.trans (hbc.mono HWB.out.size))
    have hws := HWS.out
    have hne1 : ¬ (w.heap.size + 1 + 1 = g10) := by omega
    have hne2 : ¬ (w.heap.size + 1 + 1 + 1 = g10) := by omega
    have hne3 : ¬ (w.heap.size + 1 + 1 = w.heap.size) := by omega
    have hne4 : ¬ (w.heap.size + 1 + 1 + 1 + 1 = g10) := by omega
    have hne5 : ¬ (w.heap.size + 1 + 1 + 1 = w.heap.size) := by omega
    have hwsl : w.heap.size + 1 + 1 + 1 + 1 < wc.heap.size := by omega
    clear hbc kb0 kx0 hws
    have r0 : wc.cell? ⟨w.heap.size + 1 + 1, 0, none⟩ = some (.int .i64 0) := HB5.out.r.cell 0
    have r1 : wc.cell? ⟨w.heap.size + 1 + 1, 1, none⟩ = some (.slice none 0 0) := HB5.out.r.cell 1
    have r2 : wc.cell? ⟨w.heap.size + 1 + 1, 2, none⟩ = some (.slice none 0 0) := HB5.out.r.cell 2
    have r3 : wc.cell? ⟨w.heap.size + 1 + 1, 3, none⟩ = some (.slice none 0 0) := HB5.out.r.cell 3
    have r4 : wc.cell? ⟨w.heap.size + 1 + 1, 4, none⟩ = some (.int .i64 0) := HB5.out.r.cell 4
    have r5 : wc.cell? ⟨w.heap.size + 1 + 1, 5, none⟩ = some (.bool false) := HB5.out.r.cell 5
    have rf : ∀ i, wc.frozen? ⟨w.heap.size + 1 + 1, i, none⟩ = false := HB5.out.r.frozen
    have q0 : wc.cell? ⟨w.heap.size + 1 + 1 + 1, 0, none⟩ = some (.bool false) := HB5.out.q.cell 0
    have q1 : wc.cell? ⟨w.heap.size + 1 + 1 + 1, 1, none⟩ = some (.bool false) := HB5.out.q.cell 1
    have q2 : wc.cell? ⟨w.heap.size + 1 + 1 + 1, 2, none⟩ = some (.slice none 0 0) := HB5.out.q.cell 2
    have q3 : wc.cell? ⟨w.heap.size + 1 + 1 + 1, 3, none⟩ = some (.int .i64 0) := HB5.out.q.cell 3
    have q4 : wc.cell? ⟨w.heap.size + 1 + 1 + 1, 4, none⟩ = some (.int .i64 0) := HB5.out.q.cell 4
    have q5 : wc.cell? ⟨w.heap.size + 1 + 1 + 1, 5, none⟩ = some (.bool false) := HB5.out.q.cell 5
    have q6 : wc.cell? ⟨w.heap.size + 1 + 1 + 1, 6, none⟩ = some (.int .i64 0) := HB5.out.q.cell 6
    have q7 : wc.cell? ⟨w.heap.size + 1 + 1 + 1, 7, none⟩ = some (.int .i64 0) := HB5.out.q.cell 7
    have q8 : wc.cell? ⟨w.heap.size + 1 + 1 + 1, 8, none⟩ = some (.int .i64 0) := HB5.out.q.cell 8
    have qf : ∀ i, wc.frozen? ⟨w.heap.size + 1 + 1 + 1, i, none⟩ = false := HB5.out.q.frozen
    have s0 : wc.cell? ⟨w.heap.size + 1 + 1 + 1 + 1, 0, none⟩ = some (.int .i64 0) := HB5.out.s.cell 0
    have s1 : wc.cell? ⟨w.heap.size + 1 + 1 + 1 + 1, 1, none⟩ = some (.slice none 0 0) := HB5.out.s.cell 1
    have s2 : wc.cell? ⟨w.heap.size + 1 + 1 + 1 + 1, 2, none⟩ = some (.slice none 0 0) := HB5.out.s.cell 2
    have s3 : wc.cell? ⟨w.heap.size + 1 + 1 + 1 + 1, 3, none⟩ = some (.slice none 0 0) := HB5.out.s.cell 3
    have s4 : wc.cell? ⟨w.heap.size + 1 + 1 + 1 + 1, 4, none⟩ = some (.int .i64 0) := HB5.out.s.cell 4
    have s5 : wc.cell? ⟨w.heap.size + 1 + 1 + 1 + 1, 5, none⟩ = some (.bool false) := HB5.out.s.cell 5
    have sf : ∀ i, wc.frozen? ⟨w.heap.size + 1 + 1 + 1 + 1, i, none⟩ = false := HB5.out.s.frozen
    go_wp2_with fail
    go_region
    all_goals
      go_wp2
      refine bodyPost_ret (v := .tuple #[.agg #[.int .i64 z, .slice none 0 0, .slice none 0 0, .slice none 0 0, .int .i64 0, .bool false], .agg #[.bool g'.d, .bool g'.a, .slice g'.pa g'.pn g'.pc, .int .i64 g'.k, .int .i64 g'.r, .bool g'.laid, .int .i64 g'.R, .int .i64 g'.C, .int .i64 g'.I]]) (by simp only [results, Try.results36]; go_simp) rfl ?_
      refine ⟨_, rfl, Said.code_at _ _ _, ?_⟩
      repeat (first | with_reducible exact HBd.out | with_reducible refine Below.setCell ?_ (by show w.heap.size ≤ _; simp only []; omega) _ | with_reducible refine below_drewN ?_ _ | with_reducible refine below_drew1 ?_)

set_option maxRecDepth 100000 in
set_option maxHeartbeats 20000000 in
theorem led_cut (p : Nat) (S : Drv) (F : Nat → Prop) (x : PStep) (L : SLay) (g : GCells) (w : World) (hk : 1 ≤ x.kind ∧ x.kind ≤ 8) (hx : x.Fits) (hd : Dr w p S F) (hF : ∀ k, F k → k < w.heap.size) (hS : S.Small) (B : Nat) (hB : B ≤ w.heap.size) (hxa : StepAt w B L x) (nn : Nat) (z : Int) (hn0 : 0 < nn) (hnl : nn ≤ x.data.length) (g' : GCells) (hask : ∀ W, Below w.heap.size w W → Calls Try.prog 58 #[.agg (gcells g), .int .i64 (gkind x.kind), .int .i64 x.data.length] W fun e w' => e = .returned (.tuple #[ansV false (nn : Int) z, .agg (gcells g')]) ∧ Below W.heap.size W w') :
    Calls Try.prog 36 #[.agg (gcells g), .pointer (some ⟨p, 0, none⟩), .agg (stepCells x L)] w fun e w' => 
      ∃ u, e = .returned (.tuple #[u, .agg (gcells g')]) ∧ SaidAt w' w.heap.size u (.code z) ∧ Dr w' p (S.append x.nm (x.data.take nn)).1 (grow F w w') ∧ Touch F w w' := by
  obtain ⟨W, hW⟩ : ∃ W, W = ((((w.alloc (.cells (gcells g) 61)).alloc (.cells (stepCells x L) 69)).alloc (.cells zeroSaid 41)).alloc (.cells zeroGate 61)).alloc (.cells zeroSaid 41) := ⟨_, rfl⟩
  have HBX := Lib.hid (hW ▸ Box5.new w g x L)
  have HWB : Hid (Below w.heap.size w W) := Lib.hid (hW ▸ below5 w _ _ _ _ _)
  have HWS : Hid (W.heap.size = w.heap.size + 5) := Lib.hid (by rw [hW]; simp)
  unfold gcells stepCells zeroSaid zeroGate at hW
  have HW := Lib.hid hW
  have HX := Lib.hid hx
  have HD := Lib.hid hd
  have HF := Lib.hid hF
  have HS := Lib.hid hS
  have HXA := Lib.hid hxa
  have HCV : Hid (stepCells x L = #[.int .i64 x.kind, .string x.name, .string x.to, .slice L.pd x.data.length L.cd, .int .i64 x.a, .int .i64 x.b, .int .i64 x.c, .bool x.yes, .slice L.pp x.plan.length L.cp, .slice L.pr x.dirs.length L.cr, .slice L.pc x.cuts.length L.cc]) := Lib.hid rfl
  have HGV : Hid (gcells g = #[.bool g.d, .bool g.a, .slice g.pa g.pn g.pc, .int .i64 g.k, .int .i64 g.r, .bool g.laid, .int .i64 g.R, .int .i64 g.C, .int .i64 g.I]) := Lib.hid rfl
  have HASK := Lib.hid hask
  have HK := Lib.hid hk
  have hk1 := hk.1
  have hk2 := hk.2
  have hcd : x.data.length ≤ L.cd := hxa.cd
  have hnn0 : (0 : Int) ≤ (nn : Int) := Int.natCast_nonneg _
  have hnn1 : (nn : Int) ≤ (L.cd : Int) := by omega
  have HNL := Lib.hid hnl
  have HTL : Hid ((x.data.take nn).length = nn) := Lib.hid (by rw [List.length_take]; omega)
  obtain ⟨T, hT⟩ : ∃ T, T = (S.append x.nm (x.data.take nn)).1 := ⟨_, rfl⟩
  rw [← hT]
  have HT := Lib.hid hT
  clear hx hd hF hS hxa hask hW hk hnl hT
  unfold gcells stepCells
  go_enter Try.func36, Try.ntmps36
  go_upto_region 3 with fail
  rw [← HW.out]
  have kb0 : Blk W w.heap.size 61 (gcells g) := HBX.out.g
  have kx0 : Blk W (w.heap.size + 1) 69 (stepCells x L) := HBX.out.x
  have hwl : w.heap.size + 1 + 1 + 1 + 1 < W.heap.size := by have := HWS.out; omega
  go_cut [9, 10] (fun s9 s10 wx => ∃ g9 g10 : Nat, s9 = .pointer (some ⟨g9, 0, none⟩) ∧ s10 = .pointer (some ⟨g10, 0, none⟩) ∧ Below W.heap.size W wx ∧ (W.heap.size ≤ g9 ∧ W.heap.size ≤ g10) ∧ g10 < wx.heap.size ∧ (wx.cell? ⟨g9, 0, none⟩ = some (.bool false) ∧ wx.cell? ⟨g9, 1, none⟩ = some (.int .i64 ((nn : Int))) ∧ wx.cell? ⟨g9, 2, none⟩ = some (.int .i64 (z))) ∧ wx.cell? ⟨g10, 0, none⟩ = some (.bool g'.d) ∧ wx.cell? ⟨g10, 1, none⟩ = some (.bool g'.a) ∧ wx.cell? ⟨g10, 2, none⟩ = some (.slice g'.pa g'.pn g'.pc) ∧ wx.cell? ⟨g10, 3, none⟩ = some (.int .i64 g'.k) ∧ wx.cell? ⟨g10, 4, none⟩ = some (.int .i64 g'.r) ∧ wx.cell? ⟨g10, 5, none⟩ = some (.bool g'.laid) ∧ wx.cell? ⟨g10, 6, none⟩ = some (.int .i64 g'.R) ∧ wx.cell? ⟨g10, 7, none⟩ = some (.int .i64 g'.C) ∧ wx.cell? ⟨g10, 8, none⟩ = some (.int .i64 g'.I))
  case first =>
    have HSS : Hid (∀ V : World, Below W.heap.size W V → (V.cell? ⟨w.heap.size, 0, none⟩ = some (.bool g.d) ∧ V.cell? ⟨w.heap.size, 1, none⟩ = some (.bool g.a) ∧ V.cell? ⟨w.heap.size, 2, none⟩ = some (.slice g.pa g.pn g.pc) ∧ V.cell? ⟨w.heap.size, 3, none⟩ = some (.int .i64 g.k) ∧ V.cell? ⟨w.heap.size, 4, none⟩ = some (.int .i64 g.r) ∧ V.cell? ⟨w.heap.size, 5, none⟩ = some (.bool g.laid) ∧ V.cell? ⟨w.heap.size, 6, none⟩ = some (.int .i64 g.R) ∧ V.cell? ⟨w.heap.size, 7, none⟩ = some (.int .i64 g.C) ∧ V.cell? ⟨w.heap.size, 8, none⟩ = some (.int .i64 g.I)) ∧ V.cell? ⟨w.heap.size + 1, 0, none⟩ = some (.int .i64 x.kind) ∧ V.cell? ⟨w.heap.size + 1, 1, none⟩ = some (.string x.name) ∧ V.cell? ⟨w.heap.size + 1, 2, none⟩ = some (.string x.to) ∧ V.cell? ⟨w.heap.size + 1, 3, none⟩ = some (.slice L.pd x.data.length L.cd) ∧ V.cell? ⟨w.heap.size + 1, 4, none⟩ = some (.int .i64 x.a) ∧ V.cell? ⟨w.heap.size + 1, 5, none⟩ = some (.int .i64 x.b) ∧ V.cell? ⟨w.heap.size + 1, 6, none⟩ = some (.int .i64 x.c) ∧ V.cell? ⟨w.heap.size + 1, 7, none⟩ = some (.bool x.yes) ∧ V.cell? ⟨w.heap.size + 1, 8, none⟩ = some (.slice L.pp x.plan.length L.cp) ∧ V.cell? ⟨w.heap.size + 1, 9, none⟩ = some (.slice L.pr x.dirs.length L.cr) ∧ V.cell? ⟨w.heap.size + 1, 10, none⟩ = some (.slice L.pc x.cuts.length L.cc)) := Lib.hid fun V hV => ⟨gate_cells (kb0.below hV kb0.lt), step_cells' (kx0.below hV kx0.lt)⟩
    have kl0 : Below W.heap.size W W := Below.refl _ _
    clear kb0 kx0
    go_region_held3 (fun w' => (w'.cell? ⟨w.heap.size, 0, none⟩ = some (.bool g.d) ∧ w'.cell? ⟨w.heap.size, 1, none⟩ = some (.bool g.a) ∧ w'.cell? ⟨w.heap.size, 2, none⟩ = some (.slice g.pa g.pn g.pc) ∧ w'.cell? ⟨w.heap.size, 3, none⟩ = some (.int .i64 g.k) ∧ w'.cell? ⟨w.heap.size, 4, none⟩ = some (.int .i64 g.r) ∧ w'.cell? ⟨w.heap.size, 5, none⟩ = some (.bool g.laid) ∧ w'.cell? ⟨w.heap.size, 6, none⟩ = some (.int .i64 g.R) ∧ w'.cell? ⟨w.heap.size, 7, none⟩ = some (.int .i64 g.C) ∧ w'.cell? ⟨w.heap.size, 8, none⟩ = some (.int .i64 g.I)) ∧ w'.cell? ⟨w.heap.size + 1, 0, none⟩ = some (.int .i64 x.kind) ∧ w'.cell? ⟨w.heap.size + 1, 1, none⟩ = some (.string x.name) ∧ w'.cell? ⟨w.heap.size + 1, 2, none⟩ = some (.string x.to) ∧ w'.cell? ⟨w.heap.size + 1, 3, none⟩ = some (.slice L.pd x.data.length L.cd) ∧ w'.cell? ⟨w.heap.size + 1, 4, none⟩ = some (.int .i64 x.a) ∧ w'.cell? ⟨w.heap.size + 1, 5, none⟩ = some (.int .i64 x.b) ∧ w'.cell? ⟨w.heap.size + 1, 6, none⟩ = some (.int .i64 x.c) ∧ w'.cell? ⟨w.heap.size + 1, 7, none⟩ = some (.bool x.yes) ∧ w'.cell? ⟨w.heap.size + 1, 8, none⟩ = some (.slice L.pp x.plan.length L.cp) ∧ w'.cell? ⟨w.heap.size + 1, 9, none⟩ = some (.slice L.pr x.dirs.length L.cr) ∧ w'.cell? ⟨w.heap.size + 1, 10, none⟩ = some (.slice L.pc x.cuts.length L.cc)) (first | exact HSS.out _ (by repeat (first | with_reducible assumption | with_reducible refine Below.alloc ?_ (by (try simp only [alloc_size, size_drew1, size_set]); omega) _ | with_reducible refine Below.setCell ?_ (by (try simp only [alloc_size, size_drew1, size_set]); omega) _ | with_reducible refine below_drew1 ?_)) | go_keep)
      (first
        | (go_at_call 59; rw [← HCV.out]; refine (kind_any x L _).mono ?_; rintro e v1 ⟨rfl, hb1⟩; have hz1 := hb1.size; (try simp only [alloc_size, size_drew1, Nat.add_one_le_iff] at hz1); have hb1' : Below W.heap.size W v1 := Below.trans (by repeat (first | exact Below.refl _ _ | with_reducible refine below_drew1 ?_ | with_reducible refine Below.alloc ?_ (by (try simp only [alloc_size, size_drew1, size_set]); omega) _)) (hb1.mono (by (try simp only [alloc_size, size_drew1, size_set]); omega)); have hzW1 := hb1'.size; (try (have t11 : W.heap.size < v1.heap.size := (by omega))); (try (have t12 : W.heap.size + 1 < v1.heap.size := (by omega))); (try (have e1a := Blk.below (blk_last W.drew W.heap.size _ _ rfl) hb1 (by (try simp only [alloc_size, size_drew1, size_set]); omega); have e1ac := e1a.cell; have e1af := e1a.frozen)); (try (have e1b := Blk.below (Blk.alloc (blk_last W.drew W.heap.size _ _ rfl) _) hb1 (by (try simp only [alloc_size, size_drew1, size_set]); omega); have e1bc := e1b.cell; have e1bf := e1b.frozen; have e1c := Blk.below (blk_last (World.alloc W.drew _) (W.heap.size + 1) _ _ (by simp only [alloc_size, size_drew1])) hb1 (by (try simp only [alloc_size, size_drew1, size_set]); omega); have e1cc := e1c.cell; have e1cf := e1c.frozen)); have HB1 := Lib.hid hb1'; clear hb1)
        | (go_at_call 58; rw [← HGV.out]; refine (HASK.out _ (by (refine Below.trans HWB.out (Below.mono (Below.trans HB1.out ?_) HWB.out.size); repeat (first | exact Below.refl _ _ | with_reducible refine Below.alloc ?_ (by (try simp only [alloc_size, size_drew1, size_set]); omega) _)))).mono ?_; rintro e v2 ⟨rfl, hb2⟩; unfold gcells ansV; have hz2 := hb2.size; (try simp only [alloc_size, Nat.add_one_le_iff] at hz2); have hb2' : Below W.heap.size W v2 := Below.trans (Below.trans HB1.out (by repeat (first | exact Below.refl _ _ | with_reducible refine Below.alloc ?_ (by (try simp only [alloc_size, size_drew1, size_set]); omega) _))) (hb2.mono (by (try simp only [alloc_size, size_drew1, size_set]); omega)); (try (have e2a := Blk.below (blk_last v1 v1.heap.size _ _ rfl) hb2 (by (try simp only [alloc_size, size_drew1, size_set]); omega); have e2ac := e2a.cell; have e2af := e2a.frozen)); (try (have e2b := Blk.below (Blk.alloc (blk_last v1 v1.heap.size _ _ rfl) _) hb2 (by (try simp only [alloc_size, size_drew1, size_set]); omega); have e2bc := e2b.cell; have e2bf := e2b.frozen; have e2c := Blk.below (blk_last (World.alloc v1 _) (v1.heap.size + 1) _ _ (by simp only [alloc_size, size_drew1])) hb2 (by (try simp only [alloc_size, size_drew1, size_set]); omega); have e2cc := e2c.cell; have e2cf := e2c.frozen)); (try (have fe1a := Blk.below (by first | exact e1a | exact Blk.alloc e1a _ | exact Blk.alloc (Blk.alloc e1a _) _) hb2 (by (try simp only [alloc_size, size_drew1, size_set]); omega); have fe1ac := fe1a.cell; have fe1af := fe1a.frozen)); (try (have fe1b := Blk.below (by first | exact e1b | exact Blk.alloc e1b _ | exact Blk.alloc (Blk.alloc e1b _) _) hb2 (by (try simp only [alloc_size, size_drew1, size_set]); omega); have fe1bc := fe1b.cell; have fe1bf := fe1b.frozen)); (try (have fe1c := Blk.below (by first | exact e1c | exact Blk.alloc e1c _ | exact Blk.alloc (Blk.alloc e1c _) _) hb2 (by (try simp only [alloc_size, size_drew1, size_set]); omega); have fe1cc := fe1c.cell; have fe1cf := fe1c.frozen)); have HB2 := Lib.hid hb2'; have hzW2 := hb2'.size; (try (have t21 : W.heap.size < v2.heap.size := (by omega))); (try (have t22 : W.heap.size + 1 < v2.heap.size := (by omega))); (try (have t23 : v1.heap.size < v2.heap.size := (by omega))); (try (have t24 : v1.heap.size + 1 < v2.heap.size := (by omega))); clear hb2))
    all_goals
      go_wp2_with fail
      go_meet
      refine ⟨_, _, rfl, rfl, (by repeat (first | with_reducible assumption | with_reducible refine Below.alloc ?_ (by (try simp only [alloc_size, size_drew1, size_set]); omega) _ | with_reducible refine Below.setCell ?_ (by (try simp only [alloc_size, size_drew1, size_set]); omega) _ | with_reducible refine below_drew1 ?_)), (by (try simp only [alloc_size, size_drew1, size_set]); omega), (by (try simp only [alloc_size, size_drew1, size_set]); omega), ⟨?_, ?_, ?_⟩, ?_, ?_, ?_, ?_, ?_, ?_, ?_, ?_, ?_⟩
      all_goals (first | (go_simp; done) | (simp [go_sem, *]; done) | ((repeat (rw [World.cell?_setCell_far _ _ _ _ (by first | (simp; done) | (simp; omega))])); first | (go_simp; done) | (simp [go_sem, *]; done)))
  case rest =>
    obtain ⟨g9, g10, rfl, rfl, hbc, hgl, hgu, ⟨n0, n1, n2⟩, m0, m1, m2, m3, m4, m5, m6, m7, m8⟩ := hcut
    have HBC := Lib.hid hbc
    have hsc := hbc.size
    have HB5 := Lib.hid (HBX.out.below hbc)
    have HBd : Hid (Below w.heap.size w wc) := Lib.hid (HWB.out.trans (hbc.mono HWB.out.size))
    have HBdd : Hid (Below w.heap.size w wc.drew) := Lib.hid (HWB.out.trans (below_drewN (hbc.mono HWB.out.size) 1))
    have HRT : Hid (Reads wc B 1 L.pd nn ((x.data.take nn).map B8)) := Lib.hid (by
      have := ((HXA.out.far fun k hk => HBd.out.block k (by omega)).data).cutTo HNL.out
      rwa [← List.map_take] at this)
    have hws := HWS.out
    have hne1 : ¬ (w.heap.size + 1 + 1 = g10) := by omega
    have hne2 : ¬ (w.heap.size + 1 + 1 + 1 = g10) := by omega
    have hne3 : ¬ (w.heap.size + 1 + 1 = w.heap.size) := by omega
    have hne4 : ¬ (w.heap.size + 1 + 1 + 1 + 1 = g10) := by omega
    have hne5 : ¬ (w.heap.size + 1 + 1 + 1 = w.heap.size) := by omega
    have hwsl : w.heap.size + 1 + 1 + 1 + 1 < wc.heap.size := by omega
    have HWL := Lib.hid hws
    clear hbc kb0 kx0 hws
    go_wp2_with fail
    have kx5 : Blk wc.drew (w.heap.size + 1) 69 (stepCells x L) := HB5.out.x
    have kx6 : Blk wc (w.heap.size + 1) 69 (stepCells x L) := HB5.out.x
    have hg9l : g9 < wc.heap.size := World.block_lt_of_cell? wc _ n0
    have kn5 : wc.drew.cell? ⟨g9, 1, none⟩ = some (.int .i64 (nn : Int)) := n1
    have hg9c : W.heap.size ≤ g9 := hgl.1
    go_region_held3 (fun w' => (w'.cell? ⟨w.heap.size + 1, 0, none⟩ = some (.int .i64 x.kind) ∧ w'.cell? ⟨w.heap.size + 1, 1, none⟩ = some (.string x.name) ∧ w'.cell? ⟨w.heap.size + 1, 2, none⟩ = some (.string x.to) ∧ w'.cell? ⟨w.heap.size + 1, 3, none⟩ = some (.slice L.pd x.data.length L.cd) ∧ w'.cell? ⟨w.heap.size + 1, 4, none⟩ = some (.int .i64 x.a) ∧ w'.cell? ⟨w.heap.size + 1, 5, none⟩ = some (.int .i64 x.b) ∧ w'.cell? ⟨w.heap.size + 1, 6, none⟩ = some (.int .i64 x.c) ∧ w'.cell? ⟨w.heap.size + 1, 7, none⟩ = some (.bool x.yes) ∧ w'.cell? ⟨w.heap.size + 1, 8, none⟩ = some (.slice L.pp x.plan.length L.cp) ∧ w'.cell? ⟨w.heap.size + 1, 9, none⟩ = some (.slice L.pr x.dirs.length L.cr) ∧ w'.cell? ⟨w.heap.size + 1, 10, none⟩ = some (.slice L.pc x.cuts.length L.cc)) ∧ w'.cell? ⟨g9, 1, none⟩ = some (.int .i64 (nn : Int))) (first | exact ⟨step_cells' (by with_reducible assumption), (by with_reducible assumption)⟩ | go_keep)
      (first
        | (go_at_call 18; refine (twin_any L.pd nn L.cd (x.data.take nn) wc.drew B HRT.out.drew (by have h1 := HNL.out; have h2 := HX.out.data; omega)).mono ?_; rintro e z1 ⟨v, rfl, ho, hb⟩; obtain ⟨a1, c1, rfl, _⟩ := own_shape ho; have HO1 : Hid (z1.ownsRow wc.drew.heap.size 5 1 (.slice a1 nn c1) nn ((x.data.take nn).map B8)) := Lib.hid ho; have HZ1 : Hid (Below w.heap.size w z1) := Lib.hid (HBdd.out.trans (hb.mono HBdd.out.size)); have kx7 : Blk z1 (w.heap.size + 1) 69 (stepCells x L) := kx5.below hb kx5.lt; have kn7 : z1.cell? ⟨g9, 1, none⟩ = some (.int .i64 (nn : Int)) := (hb.cell (p := ⟨g9, 1, none⟩) hg9l).trans n1; have HZB1 : Hid (Below wc.heap.size wc z1) := Lib.hid (Below.trans (below_drewN (Below.refl _ wc) 1) hb); clear ho hb)
        | (go_at_call 42; have HAP := Lib.hid (append_any p S F x.name z1 HX.out.name (HD.out.below HZ1.out) HS.out a1 c1 (x.data.take nn) (by rw [HTL.out]; exact Reads.of_own HO1.out) (by rw [HTL.out]; have h1 := HNL.out; have h2 := HX.out.data; omega)); rw [HTL.out] at HAP; refine HAP.out.mono ?_; rintro e z2 ⟨rfl, hd2, ht2⟩; have HD2 := Lib.hid hd2; have HT2 := Lib.hid ht2; have kx8 : Blk z2 (w.heap.size + 1) 69 (stepCells x L) := (ht2.block _ kx7.lt (fun hf => absurd (HF.out _ hf) (by omega))).trans kx7; have kn8 : z2.cell? ⟨g9, 1, none⟩ = some (.int .i64 (nn : Int)) := (World.cell?_of_block (ht2.block g9 (Nat.lt_of_lt_of_le hg9l HZB1.out.size) (fun hf => absurd (HF.out _ hf) (by omega)))).trans kn7; clear hd2 ht2))
    have HZ5 := Lib.hid ((HB5.out.below HZB1.out).touch HT2.out HF.out)
    have kez : z2.heap[g10]? = wc.heap[g10]? := (HT2.out.block g10 (Nat.lt_of_lt_of_le hgu HZB1.out.size) (fun hf => absurd (HF.out _ hf) (by omega))).trans (HZB1.out.block g10 hgu)
    have key : z2.heap[g9]? = wc.heap[g9]? := (HT2.out.block g9 (Nat.lt_of_lt_of_le hg9l HZB1.out.size) (fun hf => absurd (HF.out _ hf) (by omega))).trans (HZB1.out.block g9 hg9l)
    have n2z : z2.cell? ⟨g9, 2, none⟩ = some (.int .i64 z) := (World.cell?_of_block key).trans n2
    have m0z : z2.cell? ⟨g10, 0, none⟩ = some (.bool g'.d) := (World.cell?_of_block kez).trans m0
    have m1z : z2.cell? ⟨g10, 1, none⟩ = some (.bool g'.a) := (World.cell?_of_block kez).trans m1
    have m2z : z2.cell? ⟨g10, 2, none⟩ = some (.slice g'.pa g'.pn g'.pc) := (World.cell?_of_block kez).trans m2
    have m3z : z2.cell? ⟨g10, 3, none⟩ = some (.int .i64 g'.k) := (World.cell?_of_block kez).trans m3
    have m4z : z2.cell? ⟨g10, 4, none⟩ = some (.int .i64 g'.r) := (World.cell?_of_block kez).trans m4
    have m5z : z2.cell? ⟨g10, 5, none⟩ = some (.bool g'.laid) := (World.cell?_of_block kez).trans m5
    have m6z : z2.cell? ⟨g10, 6, none⟩ = some (.int .i64 g'.R) := (World.cell?_of_block kez).trans m6
    have m7z : z2.cell? ⟨g10, 7, none⟩ = some (.int .i64 g'.C) := (World.cell?_of_block kez).trans m7
    have m8z : z2.cell? ⟨g10, 8, none⟩ = some (.int .i64 g'.I) := (World.cell?_of_block kez).trans m8
    have hzs1 := HZB1.out.size
    have hzs2 := HT2.out.size
    have hwsz : w.heap.size + 1 + 1 + 1 + 1 < z2.heap.size := by omega
    have r0 : z2.cell? ⟨w.heap.size + 1 + 1, 0, none⟩ = some (.int .i64 0) := HZ5.out.r.cell 0
    have r1 : z2.cell? ⟨w.heap.size + 1 + 1, 1, none⟩ = some (.slice none 0 0) := HZ5.out.r.cell 1
    have r2 : z2.cell? ⟨w.heap.size + 1 + 1, 2, none⟩ = some (.slice none 0 0) := HZ5.out.r.cell 2
    have r3 : z2.cell? ⟨w.heap.size + 1 + 1, 3, none⟩ = some (.slice none 0 0) := HZ5.out.r.cell 3
    have r4 : z2.cell? ⟨w.heap.size + 1 + 1, 4, none⟩ = some (.int .i64 0) := HZ5.out.r.cell 4
    have r5 : z2.cell? ⟨w.heap.size + 1 + 1, 5, none⟩ = some (.bool false) := HZ5.out.r.cell 5
    have rf : ∀ i, z2.frozen? ⟨w.heap.size + 1 + 1, i, none⟩ = false := HZ5.out.r.frozen
    have q0 : z2.cell? ⟨w.heap.size + 1 + 1 + 1, 0, none⟩ = some (.bool false) := HZ5.out.q.cell 0
    have q1 : z2.cell? ⟨w.heap.size + 1 + 1 + 1, 1, none⟩ = some (.bool false) := HZ5.out.q.cell 1
    have q2 : z2.cell? ⟨w.heap.size + 1 + 1 + 1, 2, none⟩ = some (.slice none 0 0) := HZ5.out.q.cell 2
    have q3 : z2.cell? ⟨w.heap.size + 1 + 1 + 1, 3, none⟩ = some (.int .i64 0) := HZ5.out.q.cell 3
    have q4 : z2.cell? ⟨w.heap.size + 1 + 1 + 1, 4, none⟩ = some (.int .i64 0) := HZ5.out.q.cell 4
    have q5 : z2.cell? ⟨w.heap.size + 1 + 1 + 1, 5, none⟩ = some (.bool false) := HZ5.out.q.cell 5
    have q6 : z2.cell? ⟨w.heap.size + 1 + 1 + 1, 6, none⟩ = some (.int .i64 0) := HZ5.out.q.cell 6
    have q7 : z2.cell? ⟨w.heap.size + 1 + 1 + 1, 7, none⟩ = some (.int .i64 0) := HZ5.out.q.cell 7
    have q8 : z2.cell? ⟨w.heap.size + 1 + 1 + 1, 8, none⟩ = some (.int .i64 0) := HZ5.out.q.cell 8
    have qf : ∀ i, z2.frozen? ⟨w.heap.size + 1 + 1 + 1, i, none⟩ = false := HZ5.out.q.frozen
    have s0 : z2.cell? ⟨w.heap.size + 1 + 1 + 1 + 1, 0, none⟩ = some (.int .i64 0) := HZ5.out.s.cell 0
    have s1 : z2.cell? ⟨w.heap.size + 1 + 1 + 1 + 1, 1, none⟩ = some (.slice none 0 0) := HZ5.out.s.cell 1
    have s2 : z2.cell? ⟨w.heap.size + 1 + 1 + 1 + 1, 2, none⟩ = some (.slice none 0 0) := HZ5.out.s.cell 2
    have s3 : z2.cell? ⟨w.heap.size + 1 + 1 + 1 + 1, 3, none⟩ = some (.slice none 0 0) := HZ5.out.s.cell 3
    have s4 : z2.cell? ⟨w.heap.size + 1 + 1 + 1 + 1, 4, none⟩ = some (.int .i64 0) := HZ5.out.s.cell 4
    have s5 : z2.cell? ⟨w.heap.size + 1 + 1 + 1 + 1, 5, none⟩ = some (.bool false) := HZ5.out.s.cell 5
    have sf : ∀ i, z2.frozen? ⟨w.heap.size + 1 + 1 + 1 + 1, i, none⟩ = false := HZ5.out.s.frozen
    clear m0 m1 m2 m3 m4 m5 m6 m7 m8 n0 n1 n2 kn5 kn7 kn8 kx5 kx6 kx7 kx8 kez key
    go_wp2_with fail
    go_region
    all_goals
      go_wp2
      refine bodyPost_ret (v := .tuple #[.agg #[.int .i64 z, .slice none 0 0, .slice none 0 0, .slice none 0 0, .int .i64 0, .bool false], .agg #[.bool g'.d, .bool g'.a, .slice g'.pa g'.pn g'.pc, .int .i64 g'.k, .int .i64 g'.r, .bool g'.laid, .int .i64 g'.R, .int .i64 g'.C, .int .i64 g'.I]]) (by simp only [results, Try.results36]; go_simp) rfl ?_
      refine ⟨_, rfl, Said.code_at _ _ _, ?_⟩
      rw [HT.out]
      have hwl0 := HWL.out
      refine frame_dr (G := fun k => k = w.heap.size + 1 + 1 ∨ k = w.heap.size + 1 + 1 + 1 ∨ k = w.heap.size + 1 + 1 + 1 + 1) HZ1.out HD2.out HT2.out ?_ (by simp only [size_set, size_drew1]) HF.out (fun k hk => by rcases hk with rfl | rfl | rfl <;> omega)
      repeat (first | with_reducible exact Touch.refl _ _ | with_reducible refine Touch.set ?_ (by simp) _ | with_reducible refine touch_drew1 ?_)
end Go.Proofs.Ytdmcjomcbhdcbaa

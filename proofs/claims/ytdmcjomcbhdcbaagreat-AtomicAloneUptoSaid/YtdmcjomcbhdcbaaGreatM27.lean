/- The document's disk, walked: what goes through its gate.; The document's disk, walked: its calls.; The document's drive, walked: Flip. -/
import Derived.Test.YtdmcjomcbhdcbaaGreatM26
import Derived.Test.YtdmcjomcbhdcbaaGreatM21
import Derived.Test.YtdmcjomcbhdcbaaGreatM17
set_option linter.unusedVariables false
namespace Go.Proofs.YtdmcjomcbhdcbaaGreat
open Go.RowKit Go.Maps

/-- The gate of a disk: its cells, and what a store of another one leaves. -/
theorem DK.gate {w : World} {q p : Nat} {X : Wnd} {S : Drv} {F : Nat → Prop} (hk : DK w q p X S F) :
    ∃ g, GateIn w q X g ∧ w.ownsRow 0 181 2 (.slice g.pa g.pn g.pc) g.pn (planCells X.plan) ∧ w.cell? ⟨q, 0, none⟩ = some (.pointer (some ⟨p, 0, none⟩)) ∧ ∀ (w1 : World) (g' : GCells) (Y : Wnd), Below w.heap.size w w1 → GateOf Y g' → (w1.ownsRow w.heap.size 181 2 (.slice g'.pa g'.pn g'.pc) g'.pn (planCells Y.plan) ∨ g'.pa = g.pa ∧ g'.pn = g.pn ∧ g'.pc = g.pc ∧ Y.plan = X.plan) →
      DK (setG w1 q g') q p Y S (grow F w (setG w1 q g')) ∧ Touch F w (setG w1 q g') := by
  obtain ⟨FG, FM, hk, hF⟩ := hk
  obtain ⟨g, hg, hq, hpl⟩ := hk.gt
  refine ⟨g, ⟨hg.of, hg.head.cell 1, hg.head.cell 2, hg.head.cell 3, hg.head.cell 4, hg.head.cell 5, hg.head.cell 6, hg.head.cell 7, hg.head.cell 8, hg.head.cell 9, hg.head.frozen, hg.head.lt⟩, hg.plan, hg.head.cell 0, fun w1 g' Y' hb hof hrow => ?_⟩
  have hhd := hg.head.below hb hg.head.lt
  have ht : Touch FG w (setG w1 q g') := (Touch.of_below hb).then_ ((setG_touch w1 q g').mono fun k _ e => by rw [e]; exact hq)
  have hgt : Gt (setG w1 q g') q (.pointer (some ⟨p, 0, none⟩)) Y' (grow FG w (setG w1 q g')) := by
    refine ⟨g', ⟨setG_blk hhd g', hof, ?_⟩, .inl hq, fun k e => ?_⟩
    · rcases hrow with hrow | ⟨e1, e2, e3, e4⟩
      · exact ownsRow_base_a (ownsRow_keep hrow fun k e => (setG_touch w1 q g').block k (hrow.lt k e).2 (fun e2 => own_blk_ne hrow hhd (by decide) (by rw [e, e2]))) (Nat.zero_le _)
      · have := ownsRow_below hg.plan hb
        rw [e1, e2, e3, e4]
        exact ownsRow_keep this fun k e => (setG_touch w1 q g').block k (this.lt k e).2 (fun e2 => own_blk_ne this hhd (by decide) (by rw [e, e2]))
    · rcases hrow with hrow | ⟨e1, e2, e3, e4⟩
      · exact .inr ⟨(hrow.lt k e).1, by rw [setG_size]; exact (hrow.lt k e).2⟩
      · rw [e1, e2, e3] at e; exact .inl (hpl k e)
  exact hk.gate hF hgt ht

/-- How many bytes of an Append that is struck go all the same. -/
def askB (gk ins size : Int) : Int := if gk = 2 ∧ 0 ≤ ins then min ins size else 0

/-- Gate.Ask, of a gate that says what a wound does. -/
theorem gask_any (X : Wnd) (g : GCells) (hg : GateOf X g) (hX : X.Ok) (gk size : Int) (hgk : gk = 1 ∨ gk = 2 ∨ gk = 3) (hs : 0 ≤ size) (base : Nat) (w : World) (hpl : w.ownsRow base 181 2 (.slice g.pa g.pn g.pc) g.pn (planCells X.plan)) :
    Calls Tryz.prog 121 #[.agg (gcells g), .int .i64 gk, .int .i64 size] w fun e w' => ∃ g', e = .returned (.tuple #[ansV ((X.struck (gmay gk)).2.1 == 0) (askB gk (X.struck (gmay gk)).2.2 size) (X.struck (gmay gk)).2.1, .agg (gcells g')]) ∧ GateOf (X.struck (gmay gk)).1 g' ∧ g'.pa = g.pa ∧ g'.pn = g.pn ∧ g'.pc = g.pc ∧ (X.struck (gmay gk)).1.plan = X.plan ∧ Below w.heap.size w w' := by
  have hok := hX.calls
  have hor := hX.round
  have hp := hX.plan
  cases hd : X.down with
  | true =>
    have e : X.struck (gmay gk) = (X, 122, -1) := by unfold Wnd.struck; rw [if_pos hd]
    rw [e]
    refine (ask_down g gk size w (by rw [hg.d]; exact hd)).mono ?_
    rintro e w' ⟨rfl, hb⟩
    exact ⟨g, by unfold askB; rw [if_neg (by simp)]; rfl, hg, rfl, rfl, rfl, rfl, hb⟩
  | false =>
    cases ha : X.away with
    | true =>
      have e : X.struck (gmay gk) = (X, 121, -1) := by unfold Wnd.struck; rw [if_neg (by rw [hd]; simp), if_pos ha]
      rw [e]
      refine (ask_away g gk size w (by rw [hg.d]; exact hd) (by rw [hg.a]; exact ha)).mono ?_
      rintro e w' ⟨rfl, hb⟩
      exact ⟨g, by unfold askB; rw [if_neg (by simp)]; rfl, hg, rfl, rfl, rfl, rfl, hb⟩
    | false =>
      have hgd : g.d = false := by rw [hg.d]; exact hd
      have hga : g.a = false := by rw [hg.a]; exact ha
      cases hh : X.hits with
      | true =>
        have e : X.struck (gmay gk) = ({ X.count with down := true }, 122, X.inside) := by unfold Wnd.struck; rw [if_neg (by rw [hd]; simp), if_neg (by rw [ha]; simp), if_pos hh]
        rw [e]
        refine (ask_hits g gk size w hgd hga (by rw [hg.hits]; exact hh) hgk hs (by rw [hg.k]; exact hok) (by rw [hg.r]; exact hor)).mono ?_
        rintro e w' ⟨rfl, hb⟩
        refine ⟨_, ?_, hg.cut, rfl, rfl, rfl, rfl, hb⟩
        have e1 := hg.inside hh
        have e2 : (if gk = 2 then max 0 (min g.I size) else 0) = askB gk X.inside size := by
          unfold askB
          rw [e1]
          by_cases h2 : gk = 2
          · rw [if_pos h2, if_pos ⟨h2, by omega⟩]; omega
          · rw [if_neg h2, if_neg (fun h => h2 h.1)]
        rw [e2]; rfl
      | false =>
        have e : X.struck (gmay gk) = (X.count, Wnd.scan (gmay gk) X.calls X.plan, -1) := by unfold Wnd.struck; rw [if_neg (by rw [hd]; simp), if_neg (by rw [ha]; simp), if_neg (by rw [hh]; simp)]
        rw [e]
        refine (ask_goes g gk size X.plan base w hgd hga (by rw [hg.hits]; exact hh) hgk hg.pn hpl (by rw [hg.pn]; exact hp) (by rw [hg.k]; exact hok) (by rw [hg.r]; exact hor)).mono ?_
        rintro e w' ⟨rfl, hb⟩
        exact ⟨_, by rw [hg.k]; unfold askB; rw [if_neg (by simp)], hg.count, rfl, rfl, rfl, rfl, hb⟩

theorem touch3 (Z : World) (b : Nat) (x y z : Value) : Touch (· = b) Z (((Z.setCell ⟨b, 0, none⟩ x).setCell ⟨b, 1, none⟩ y).setCell ⟨b, 2, none⟩ z) := by
  iterate 3 (refine Touch.then_ ?_ (Touch.setCell _ _ _ rfl))
  exact Touch.refl _ _
theorem dask_end {w w0 Z : World} {q p : Nat} {Y : Wnd} {S : Drv} {F : Nat → Prop} (hb : Below w.heap.size w w0) (hs : w0.heap.size = w.heap.size + 1) (hZ : w.heap.size < Z.heap.size) (hD : DK Z q p Y S (grow (fun k => F k ∧ k < w.heap.size) w0 Z)) (hT : Touch (fun k => F k ∧ k < w.heap.size) w0 Z) (x y z : Value) :
    DK (((Z.setCell ⟨w.heap.size, 0, none⟩ x).setCell ⟨w.heap.size, 1, none⟩ y).setCell ⟨w.heap.size, 2, none⟩ z) q p Y S (grow F w (((Z.setCell ⟨w.heap.size, 0, none⟩ x).setCell ⟨w.heap.size, 1, none⟩ y).setCell ⟨w.heap.size, 2, none⟩ z)) ∧ Touch F w (((Z.setCell ⟨w.heap.size, 0, none⟩ x).setCell ⟨w.heap.size, 1, none⟩ y).setCell ⟨w.heap.size, 2, none⟩ z) := by
  have h3 := touch3 Z w.heap.size x y z
  have hsz : (((Z.setCell ⟨w.heap.size, 0, none⟩ x).setCell ⟨w.heap.size, 1, none⟩ y).setCell ⟨w.heap.size, 2, none⟩ z).heap.size = Z.heap.size := by rw [size_set', size_set', size_set']
  refine ⟨(hD.keep h3 fun k hk e => ?_).mono fun k hk => ?_, (Touch.of_below hb).trans ((hT.mono fun k _ hk => .inl hk.1).trans (h3.mono fun k _ hk => .inl (.inr ?_)))⟩
  · rcases hk with hk | hk
    · have := hk.2; omega
    · omega
  · rcases hk with hk | hk
    · exact .inl hk.1
    · exact .inr (by rw [hsz]; omega)
  · have e : k = w.heap.size := hk
    omega
set_option maxRecDepth 100000 in
set_option maxHeartbeats 8000000 in
theorem dask_any (q p : Nat) (X : Wnd) (S : Drv) (F : Nat → Prop) (gk size : Int) (hgk : gk = 1 ∨ gk = 2 ∨ gk = 3) (hs : 0 ≤ size) (hX : X.Ok) (w : World) (hd : DK w q p X S F) :
    Calls Tryz.prog 106 #[.pointer (some ⟨q, 0, none⟩), .int .i64 gk, .int .i64 size] w fun e w' => e = .returned (ansV ((X.struck (gmay gk)).2.1 == 0) (askB gk (X.struck (gmay gk)).2.2 size) (X.struck (gmay gk)).2.1) ∧ DK w' q p (X.struck (gmay gk)).1 S (grow F w w') ∧ Touch F w w' := by
  obtain ⟨w0, hw0⟩ : ∃ w0, w0 = w.alloc (.cells #[.bool false, .int .i64 0, .int .i64 0] 178) := ⟨_, rfl⟩
  have hb0 : Below w.heap.size w w0 := by rw [hw0]; exact (Below.refl _ w).alloc (Nat.le_refl _) _
  have hs0 : w0.heap.size = w.heap.size + 1 := by rw [hw0]; simp
  have hA6 : Blk w0 w.heap.size 178 #[.bool false, .int .i64 0, .int .i64 0] := by rw [hw0]; exact Blk.new _ _ _
  obtain ⟨g, hg, hpl, _, hgo⟩ := (hd.lt.below hb0).gate
  have HASK := Lib.hid (fun W (hW : Below w0.heap.size w0 W) => gask_any X g hg.of hX gk size hgk hs 0 W (ownsRow_below hpl hW))
  have HGO := Lib.hid hgo
  have HGI := Lib.hid hg
  obtain ⟨by_, hby⟩ : ∃ b, b = askB gk (X.struck (gmay gk)).2.2 size := ⟨_, rfl⟩
  obtain ⟨er, her⟩ : ∃ b, b = (X.struck (gmay gk)).2.1 := ⟨_, rfl⟩
  obtain ⟨Y, hY⟩ : ∃ Y, Y = (X.struck (gmay gk)).1 := ⟨_, rfl⟩
  rw [← hby, ← her, ← hY] at HASK
  rw [← hby, ← her, ← hY]
  obtain ⟨bo, hbo⟩ : ∃ b, b = (er == 0) := ⟨_, rfl⟩
  rw [← hbo] at HASK ⊢
  obtain ⟨gd, ga, gpa, gpn, gpc, gk', gr, gl, gR, gC, gI⟩ := g
  obtain ⟨gof, c1, c2, c3, c4, c5, c6, c7, c8, c9, gf, hq⟩ := hg
  simp only at c1 c2 c3 c4 c5 c6 c7 c8 c9
  unfold gcells ansV at HASK
  simp only at HASK
  have HA6 := Lib.hid hA6
  have HB0 := Lib.hid hb0
  rw [hw0] at c1 c2 c3 c4 c5 c6 c7 c8 c9
  have HW0 := Lib.hid hw0
  clear hgo gof hpl hd hbo hby her hY hA6 hb0 hw0
  go_enter Tryz.func106, Tryz.ntmps106
  go_upto_region 2 with (go_at_call 121; rw [← HW0.out]; refine (HASK.out _ (Below.refl _ _)).mono ?_; rintro e w2 ⟨g', rfl, hof, e1, e2, e3, e4, hb⟩; obtain ⟨xd, xa, xpa, xpn, xpc, xk, xr, xl, xR, xC, xI⟩ := g'; simp only at e1 e2 e3; subst e1 e2 e3; simp only; have HB2 := Lib.hid hb; have HOF := Lib.hid hof; have HPL := Lib.hid e4; have hw2 : w0.heap.size ≤ w2.heap.size := hb.size; clear hb hof e4)
  refine wp_world fun V hV => ?_
  have HBV : Hid (Below w0.heap.size w0 V) := Lib.hid (by rw [hV]; exact (HB2.out.alloc hw2 _).alloc (by simp; omega) _)
  have HA7 : Hid (Blk V w2.heap.size 178 #[.bool bo, .int .i64 by_, .int .i64 er]) := Lib.hid (by rw [hV]; exact (Blk.new _ _ _).alloc _)
  have HA8 : Hid (Blk V (w2.heap.size + 1) 125 #[.bool xd, .bool xa, .slice xpa xpn xpc, .int .i64 xk, .int .i64 xr, .bool xl, .int .i64 xR, .int .i64 xC, .int .i64 xI]) := Lib.hid (by rw [hV]; exact blk_last _ _ _ _ (by simp))
  have hVs : V.heap.size = w2.heap.size + 2 := by rw [hV]; simp
  clear hV c1 c2 c3 c4 c5 c6 c7 c8 c9
  have d1 : V.cell? ⟨q, 1, none⟩ = some (.bool gd) := (HBV.out.cell (p := ⟨q, 1, none⟩) hq).trans HGI.out.c1
  have d2 : V.cell? ⟨q, 2, none⟩ = some (.bool ga) := (HBV.out.cell (p := ⟨q, 2, none⟩) hq).trans HGI.out.c2
  have d3 : V.cell? ⟨q, 3, none⟩ = some (.slice xpa xpn xpc) := (HBV.out.cell (p := ⟨q, 3, none⟩) hq).trans HGI.out.c3
  have d4 : V.cell? ⟨q, 4, none⟩ = some (.int .i64 gk') := (HBV.out.cell (p := ⟨q, 4, none⟩) hq).trans HGI.out.c4
  have d5 : V.cell? ⟨q, 5, none⟩ = some (.int .i64 gr) := (HBV.out.cell (p := ⟨q, 5, none⟩) hq).trans HGI.out.c5
  have d6 : V.cell? ⟨q, 6, none⟩ = some (.bool gl) := (HBV.out.cell (p := ⟨q, 6, none⟩) hq).trans HGI.out.c6
  have d7 : V.cell? ⟨q, 7, none⟩ = some (.int .i64 gR) := (HBV.out.cell (p := ⟨q, 7, none⟩) hq).trans HGI.out.c7
  have d8 : V.cell? ⟨q, 8, none⟩ = some (.int .i64 gC) := (HBV.out.cell (p := ⟨q, 8, none⟩) hq).trans HGI.out.c8
  have d9 : V.cell? ⟨q, 9, none⟩ = some (.int .i64 gI) := (HBV.out.cell (p := ⟨q, 9, none⟩) hq).trans HGI.out.c9
  have df : ∀ j, V.frozen? ⟨q, j, none⟩ = false := fun j => by rw [World.frozen?_of_block (HBV.out.block q hq)]; exact gf j
  have a0 := HA8.out.cell 0
  have a1 := HA8.out.cell 1
  have a2 := HA8.out.cell 2
  have a3 := HA8.out.cell 3
  have a4 := HA8.out.cell 4
  have a5 := HA8.out.cell 5
  have a6 := HA8.out.cell 6
  have a7 := HA8.out.cell 7
  have a8 := HA8.out.cell 8
  simp at a0 a1 a2 a3 a4 a5 a6 a7 a8
  have hqV : q < V.heap.size := by omega
  have hqn : q ≠ w2.heap.size := by omega
  have hqn1 : q ≠ w2.heap.size + 1 := by omega
  go_upto_region 3 with fail
  refine wp_world fun Z hZ => ?_
  have hZe : Z = setG V q ⟨xd, xa, xpa, xpn, xpc, xk, xr, xl, xR, xC, xI⟩ := by rw [hZ]; rfl
  have HEND := Lib.hid (HGO.out V ⟨xd, xa, xpa, xpn, xpc, xk, xr, xl, xR, xC, xI⟩ Y HBV.out HOF.out (.inr ⟨rfl, rfl, rfl, HPL.out⟩))
  have HTZ : Hid (Touch (· = q) V Z) := Lib.hid (by rw [hZe]; exact setG_touch V q _)
  rw [← hZe] at HEND
  have hZs : Z.heap.size = V.heap.size := by rw [hZe, setG_size]
  clear hZ hZe d1 d2 d3 d4 d5 d6 d7 d8 d9 a0 a1 a2 a3 a4 a5 a6 a7 a8
  have HZ7 : Hid (Blk Z w2.heap.size 178 #[.bool bo, .int .i64 by_, .int .i64 er]) := Lib.hid (HA7.out.touch HTZ.out (fun e => hqn e.symm))
  have HZ6 : Hid (Blk Z w.heap.size 178 #[.bool false, .int .i64 0, .int .i64 0]) := Lib.hid ((HA6.out.below HBV.out (by omega)).touch HTZ.out (fun e => by
    have e2 : w.heap.size = q := e
    have := HA6.out
    have h2 := HGI.out.c9
    rw [← e2] at h2
    have h3 : w0.cell? ⟨w.heap.size, 9, none⟩ = none := by
      have := HA6.out
      unfold World.cell?
      rw [show w0.heap[(⟨w.heap.size, 9, none⟩ : Addr).block]? = _ from this]
      rfl
    rw [h3] at h2
    cases h2))
  have e0 := HZ7.out.cell 0
  have e1 := HZ7.out.cell 1
  have e2 := HZ7.out.cell 2
  have k0 := HZ6.out.cell 0
  have k1 := HZ6.out.cell 1
  have k2 := HZ6.out.cell 2
  simp at e0 e1 e2 k0 k1 k2
  have kf := HZ6.out.frozen
  have kl : w.heap.size < Z.heap.size := HZ6.out.lt
  go_wp2
  refine bodyPost_ret (v := .agg #[.bool bo, .int .i64 by_, .int .i64 er]) (by simp only [results, Tryz.results106]; go_simp) rfl ⟨rfl, ?_⟩
  exact dask_end HB0.out hs0 (by omega) HEND.out.1 HEND.out.2 _ _ _
end Go.Proofs.YtdmcjomcbhdcbaaGreat
namespace Go.Proofs.YtdmcjomcbhdcbaaGreat
open Go.RowKit Go.Maps

/-- A call of the drive of a disk. -/
theorem DK.call {W : World} {q p : Nat} {X : Wnd} {S T : Drv} {F : Nat → Prop} {f : FuncId} {ar : Array Value} {R : Ending → World → Prop} (hd : DK W q p X S F)
    (hc : ∀ FM, Md W p S FM → Calls Tryz.prog f ar W fun e w' => R e w' ∧ Md w' p T (grow FM W w') ∧ Touch FM W w') :
    Calls Tryz.prog f ar W fun e w' => R e w' ∧ DK w' q p X T (grow F W w') ∧ Touch F W w' := by
  obtain ⟨FG, FM, hk, hf⟩ := hd
  refine (hc FM hk.md).mono ?_
  rintro e w' ⟨hr, hm, ht⟩
  exact ⟨hr, hk.drive hf hm ht⟩
theorem dk_end {w w1 W w' : World} {q p : Nat} {X : Wnd} {S : Drv} {F : Nat → Prop} (h : DK w' q p X S (grow (grow F w w1) W w')) (ht1 : Touch F w w1) (hb : Below w1.heap.size w1 W) (ht : Touch (grow F w w1) W w') : DK w' q p X S (grow F w w') ∧ Touch F w w' := by
  have h1 := ht1.size
  have h2 := hb.size
  have h3 := ht.size
  refine ⟨h.mono fun k hk => ?_, ht1.trans ((Touch.of_below hb (F := grow F w w1)).then_ ht |>.mono fun k _ hk => hk)⟩
  rcases hk with (hk | hk) | hk
  · exact .inl hk
  · exact .inr (by omega)
  · exact .inr (by omega)
theorem DK.head {w : World} {q p : Nat} {X : Wnd} {S : Drv} {F : Nat → Prop} (h : DK w q p X S F) : w.cell? ⟨q, 0, none⟩ = some (.pointer (some ⟨p, 0, none⟩)) ∧ q < w.heap.size := by
  obtain ⟨g, hg, _, h0, _⟩ := h.gate
  exact ⟨h0, hg.lt⟩
/-- Behind the gate: the drive's cell, and the answer's block beside it. -/
theorem dk_mid {w w1 : World} {q p : Nat} {X : Wnd} {S : Drv} {F : Nat → Prop} (h : DK w1 q p X S (grow F w w1)) (o : Obj) : DK (w1.alloc o) q p X S (grow F w w1) := h.below ((Below.refl _ w1).alloc (Nat.le_refl _) _)
theorem wcall_go {X X' : Wnd} {S : Drv} {may : Bool} {f : Drv × Int} {ins : Int} (h : X.struck may = (X', 0, ins)) : wcall X S may f = (X', f.1, f.2) := by unfold wcall; rw [h]; exact if_pos rfl
theorem wcall_no {X X' : Wnd} {S : Drv} {may : Bool} {f : Drv × Int} {ins z : Int} (h : X.struck may = (X', z, ins)) (hz : z ≠ 0) : wcall X S may f = (X', S, z) := by unfold wcall; rw [h]; exact if_neg hz

set_option maxRecDepth 100000 in
set_option maxHeartbeats 4000000 in
theorem dcreate_any (q p : Nat) (X : Wnd) (S : Drv) (F : Nat → Prop) (s : Nm) (w : World) (hs : s.length ≤ maxLen) (hd : DK w q p X S F) (hX : X.Ok) (hS : MOk S) :
    Calls Tryz.prog 100 #[.pointer (some ⟨q, 0, none⟩), .string ⟨s.toArray⟩] w fun e w' => e = .returned (.int .i64 (wcall X S true (S.create s)).2.2) ∧ DK w' q p (wcall X S true (S.create s)).1 (wcall X S true (S.create s)).2.1 (grow F w w') ∧ Touch F w w' := by
  have HASK := Lib.hid (dask_any q p X S F 1 0 (by decide) (by decide) hX w hd)
  have HOK := Lib.hid hS
  rw [show gmay 1 = true from rfl] at HASK
  obtain ⟨X', z, ins, hst⟩ : ∃ X' z ins, X.struck true = (X', z, ins) := ⟨_, _, _, rfl⟩
  by_cases hz : z = 0
  · subst hz
    rw [wcall_go hst]
    rw [hst] at HASK
    simp only at HASK ⊢
    obtain ⟨by_, hby⟩ : ∃ b, b = askB 1 ins 0 := ⟨_, rfl⟩
    rw [← hby] at HASK
    clear hd hX hS hst hby
    unfold ansV at HASK
    obtain ⟨T, xe, hT⟩ : ∃ T xe, (S.create s) = (T, xe) := ⟨_, _, rfl⟩
    rw [hT]
    simp only
    have HT := Lib.hid hT
    clear hT
    go_enter Tryz.func100, Tryz.ntmps100
    go_wp2_with (first
      | (go_at_call 106; refine HASK.out.mono ?_; rintro e w1 ⟨rfl, hd1, ht1⟩; obtain ⟨y0, hq1⟩ := hd1.head; have HD1 := Lib.hid hd1; have HT1 := Lib.hid ht1; clear hd1 ht1)
      | (go_at_call 115; refine (DK.call (R := fun e _ => e = .returned (.int .i64 xe)) (T := T) (dk_mid HD1.out _) (fun FM hm => (by have := mcreate_any p S FM s _ hs hm HOK.out; rw [HT.out] at this; exact this))).mono ?_; rintro e w2 ⟨rfl, hd2, ht2⟩; have HD2 := Lib.hid hd2; have HT2 := Lib.hid ht2; clear hd2 ht2))
    go_ret
    exact ⟨rfl, dk_end HD2.out HT1.out ((Below.refl _ w1).alloc (Nat.le_refl _) _) HT2.out⟩
  · rw [wcall_no hst hz]
    rw [hst] at HASK
    simp only at HASK ⊢
    have hb : (z == 0) = false := by simpa using hz
    rw [hb] at HASK
    obtain ⟨by_, hby⟩ : ∃ b, b = askB 1 ins 0 := ⟨_, rfl⟩
    rw [← hby] at HASK
    clear hd hX hS hst hby hb hz
    unfold ansV at HASK
    go_enter Tryz.func100, Tryz.ntmps100
    go_wp2_with (go_at_call 106; refine HASK.out.mono ?_; rintro e w1 ⟨rfl, hd1, ht1⟩; obtain ⟨y0, hq1⟩ := hd1.head; have HD1 := Lib.hid hd1; have HT1 := Lib.hid ht1; clear hd1 ht1)
    go_ret
    exact ⟨rfl, (dk_mid HD1.out _).mono (fun k hk => (by rcases hk with hk | hk; exact .inl hk; exact .inr (by simp; omega))), HT1.out.then_ (Touch.alloc _ _)⟩
set_option maxRecDepth 100000 in
set_option maxHeartbeats 4000000 in
theorem dsync_any (q p : Nat) (X : Wnd) (S : Drv) (F : Nat → Prop) (s : Nm) (w : World) (hs : s.length ≤ maxLen) (hd : DK w q p X S F) (hX : X.Ok) (hS : MOk S) :
    Calls Tryz.prog 102 #[.pointer (some ⟨q, 0, none⟩), .string ⟨s.toArray⟩] w fun e w' => e = .returned (.int .i64 (wcall X S false (S.sync s)).2.2) ∧ DK w' q p (wcall X S false (S.sync s)).1 (wcall X S false (S.sync s)).2.1 (grow F w w') ∧ Touch F w w' := by
  have HASK := Lib.hid (dask_any q p X S F 3 0 (by decide) (by decide) hX w hd)
  have HOK := Lib.hid hS
  rw [show gmay 3 = false from rfl] at HASK
  obtain ⟨X', z, ins, hst⟩ : ∃ X' z ins, X.struck false = (X', z, ins) := ⟨_, _, _, rfl⟩
  by_cases hz : z = 0
  · subst hz
    rw [wcall_go hst]
    rw [hst] at HASK
    simp only at HASK ⊢
    obtain ⟨by_, hby⟩ : ∃ b, b = askB 3 ins 0 := ⟨_, rfl⟩
    rw [← hby] at HASK
    clear hd hX hS hst hby
    unfold ansV at HASK
    obtain ⟨T, xe, hT⟩ : ∃ T xe, (S.sync s) = (T, xe) := ⟨_, _, rfl⟩
    rw [hT]
    simp only
    have HT := Lib.hid hT
    clear hT
    go_enter Tryz.func102, Tryz.ntmps102
    go_wp2_with (first
      | (go_at_call 106; refine HASK.out.mono ?_; rintro e w1 ⟨rfl, hd1, ht1⟩; obtain ⟨y0, hq1⟩ := hd1.head; have HD1 := Lib.hid hd1; have HT1 := Lib.hid ht1; clear hd1 ht1)
      | (go_at_call 117; refine (DK.call (R := fun e _ => e = .returned (.int .i64 xe)) (T := T) (dk_mid HD1.out _) (fun FM hm => (by have := msync_any p S FM s _ hs hm HOK.out; rw [HT.out] at this; exact this))).mono ?_; rintro e w2 ⟨rfl, hd2, ht2⟩; have HD2 := Lib.hid hd2; have HT2 := Lib.hid ht2; clear hd2 ht2))
    go_ret
    exact ⟨rfl, dk_end HD2.out HT1.out ((Below.refl _ w1).alloc (Nat.le_refl _) _) HT2.out⟩
  · rw [wcall_no hst hz]
    rw [hst] at HASK
    simp only at HASK ⊢
    have hb : (z == 0) = false := by simpa using hz
    rw [hb] at HASK
    obtain ⟨by_, hby⟩ : ∃ b, b = askB 3 ins 0 := ⟨_, rfl⟩
    rw [← hby] at HASK
    clear hd hX hS hst hby hb hz
    unfold ansV at HASK
    go_enter Tryz.func102, Tryz.ntmps102
    go_wp2_with (go_at_call 106; refine HASK.out.mono ?_; rintro e w1 ⟨rfl, hd1, ht1⟩; obtain ⟨y0, hq1⟩ := hd1.head; have HD1 := Lib.hid hd1; have HT1 := Lib.hid ht1; clear hd1 ht1)
    go_ret
    exact ⟨rfl, (dk_mid HD1.out _).mono (fun k hk => (by rcases hk with hk | hk; exact .inl hk; exact .inr (by simp; omega))), HT1.out.then_ (Touch.alloc _ _)⟩
set_option maxRecDepth 100000 in
set_option maxHeartbeats 4000000 in
theorem dremove_any (q p : Nat) (X : Wnd) (S : Drv) (F : Nat → Prop) (s : Nm) (w : World) (hs : s.length ≤ maxLen) (hd : DK w q p X S F) (hX : X.Ok) (hS : MOk S) :
    Calls Tryz.prog 105 #[.pointer (some ⟨q, 0, none⟩), .string ⟨s.toArray⟩] w fun e w' => e = .returned (.int .i64 (wcall X S false (S.remove s)).2.2) ∧ DK w' q p (wcall X S false (S.remove s)).1 (wcall X S false (S.remove s)).2.1 (grow F w w') ∧ Touch F w w' := by
  have HASK := Lib.hid (dask_any q p X S F 3 0 (by decide) (by decide) hX w hd)
  have HOK := Lib.hid hS
  rw [show gmay 3 = false from rfl] at HASK
  obtain ⟨X', z, ins, hst⟩ : ∃ X' z ins, X.struck false = (X', z, ins) := ⟨_, _, _, rfl⟩
  by_cases hz : z = 0
  · subst hz
    rw [wcall_go hst]
    rw [hst] at HASK
    simp only at HASK ⊢
    obtain ⟨by_, hby⟩ : ∃ b, b = askB 3 ins 0 := ⟨_, rfl⟩
    rw [← hby] at HASK
    clear hd hX hS hst hby
    unfold ansV at HASK
    obtain ⟨T, xe, hT⟩ : ∃ T xe, (S.remove s) = (T, xe) := ⟨_, _, rfl⟩
    rw [hT]
    simp only
    have HT := Lib.hid hT
    clear hT
    go_enter Tryz.func105, Tryz.ntmps105
    go_wp2_with (first
      | (go_at_call 106; refine HASK.out.mono ?_; rintro e w1 ⟨rfl, hd1, ht1⟩; obtain ⟨y0, hq1⟩ := hd1.head; have HD1 := Lib.hid hd1; have HT1 := Lib.hid ht1; clear hd1 ht1)
      | (go_at_call 120; refine (DK.call (R := fun e _ => e = .returned (.int .i64 xe)) (T := T) (dk_mid HD1.out _) (fun FM hm => (by have := mremove_any p S FM s _ hs hm HOK.out; rw [HT.out] at this; exact this))).mono ?_; rintro e w2 ⟨rfl, hd2, ht2⟩; have HD2 := Lib.hid hd2; have HT2 := Lib.hid ht2; clear hd2 ht2))
    go_ret
    exact ⟨rfl, dk_end HD2.out HT1.out ((Below.refl _ w1).alloc (Nat.le_refl _) _) HT2.out⟩
  · rw [wcall_no hst hz]
    rw [hst] at HASK
    simp only at HASK ⊢
    have hb : (z == 0) = false := by simpa using hz
    rw [hb] at HASK
    obtain ⟨by_, hby⟩ : ∃ b, b = askB 3 ins 0 := ⟨_, rfl⟩
    rw [← hby] at HASK
    clear hd hX hS hst hby hb hz
    unfold ansV at HASK
    go_enter Tryz.func105, Tryz.ntmps105
    go_wp2_with (go_at_call 106; refine HASK.out.mono ?_; rintro e w1 ⟨rfl, hd1, ht1⟩; obtain ⟨y0, hq1⟩ := hd1.head; have HD1 := Lib.hid hd1; have HT1 := Lib.hid ht1; clear hd1 ht1)
    go_ret
    exact ⟨rfl, (dk_mid HD1.out _).mono (fun k hk => (by rcases hk with hk | hk; exact .inl hk; exact .inr (by simp; omega))), HT1.out.then_ (Touch.alloc _ _)⟩
set_option maxRecDepth 100000 in
set_option maxHeartbeats 4000000 in
theorem drename_any (q p : Nat) (X : Wnd) (S : Drv) (F : Nat → Prop) (s t : Nm) (w : World) (hs : s.length ≤ maxLen) (ht : t.length ≤ maxLen) (hd : DK w q p X S F) (hX : X.Ok) (hS : MOk S) :
    Calls Tryz.prog 103 #[.pointer (some ⟨q, 0, none⟩), .string ⟨s.toArray⟩, .string ⟨t.toArray⟩] w fun e w' => e = .returned (.int .i64 (wcall X S false (S.rename s t)).2.2) ∧ DK w' q p (wcall X S false (S.rename s t)).1 (wcall X S false (S.rename s t)).2.1 (grow F w w') ∧ Touch F w w' := by
  have HASK := Lib.hid (dask_any q p X S F 3 0 (by decide) (by decide) hX w hd)
  have HOK := Lib.hid hS
  rw [show gmay 3 = false from rfl] at HASK
  obtain ⟨X', z, ins, hst⟩ : ∃ X' z ins, X.struck false = (X', z, ins) := ⟨_, _, _, rfl⟩
  by_cases hz : z = 0
  · subst hz
    rw [wcall_go hst]
    rw [hst] at HASK
    simp only at HASK ⊢
    obtain ⟨by_, hby⟩ : ∃ b, b = askB 3 ins 0 := ⟨_, rfl⟩
    rw [← hby] at HASK
    clear hd hX hS hst hby
    unfold ansV at HASK
    obtain ⟨T, xe, hT⟩ : ∃ T xe, (S.rename s t) = (T, xe) := ⟨_, _, rfl⟩
    rw [hT]
    simp only
    have HT := Lib.hid hT
    clear hT
    go_enter Tryz.func103, Tryz.ntmps103
    go_wp2_with (first
      | (go_at_call 106; refine HASK.out.mono ?_; rintro e w1 ⟨rfl, hd1, ht1⟩; obtain ⟨y0, hq1⟩ := hd1.head; have HD1 := Lib.hid hd1; have HT1 := Lib.hid ht1; clear hd1 ht1)
      | (go_at_call 118; refine (DK.call (R := fun e _ => e = .returned (.int .i64 xe)) (T := T) (dk_mid HD1.out _) (fun FM hm => (by have := mrename_any p S FM s t _ hs ht hm HOK.out; rw [HT.out] at this; exact this))).mono ?_; rintro e w2 ⟨rfl, hd2, ht2⟩; have HD2 := Lib.hid hd2; have HT2 := Lib.hid ht2; clear hd2 ht2))
    go_ret
    exact ⟨rfl, dk_end HD2.out HT1.out ((Below.refl _ w1).alloc (Nat.le_refl _) _) HT2.out⟩
  · rw [wcall_no hst hz]
    rw [hst] at HASK
    simp only at HASK ⊢
    have hb : (z == 0) = false := by simpa using hz
    rw [hb] at HASK
    obtain ⟨by_, hby⟩ : ∃ b, b = askB 3 ins 0 := ⟨_, rfl⟩
    rw [← hby] at HASK
    clear hd hX hS hst hby hb hz
    unfold ansV at HASK
    go_enter Tryz.func103, Tryz.ntmps103
    go_wp2_with (go_at_call 106; refine HASK.out.mono ?_; rintro e w1 ⟨rfl, hd1, ht1⟩; obtain ⟨y0, hq1⟩ := hd1.head; have HD1 := Lib.hid hd1; have HT1 := Lib.hid ht1; clear hd1 ht1)
    go_ret
    exact ⟨rfl, (dk_mid HD1.out _).mono (fun k hk => (by rcases hk with hk | hk; exact .inl hk; exact .inr (by simp; omega))), HT1.out.then_ (Touch.alloc _ _)⟩
set_option maxRecDepth 100000 in
set_option maxHeartbeats 4000000 in
theorem dsyncDir_any (q p : Nat) (X : Wnd) (S : Drv) (F : Nat → Prop)  (w : World)  (hd : DK w q p X S F) (hX : X.Ok) (hS : MOk S) :
    Calls Tryz.prog 104 #[.pointer (some ⟨q, 0, none⟩)] w fun e w' => e = .returned (.int .i64 (wcall X S false (S.syncDir, 0)).2.2) ∧ DK w' q p (wcall X S false (S.syncDir, 0)).1 (wcall X S false (S.syncDir, 0)).2.1 (grow F w w') ∧ Touch F w w' := by
  have HASK := Lib.hid (dask_any q p X S F 3 0 (by decide) (by decide) hX w hd)
  have HOK := Lib.hid hS
  rw [show gmay 3 = false from rfl] at HASK
  obtain ⟨X', z, ins, hst⟩ : ∃ X' z ins, X.struck false = (X', z, ins) := ⟨_, _, _, rfl⟩
  by_cases hz : z = 0
  · subst hz
    rw [wcall_go hst]
    rw [hst] at HASK
    simp only at HASK ⊢
    obtain ⟨by_, hby⟩ : ∃ b, b = askB 3 ins 0 := ⟨_, rfl⟩
    rw [← hby] at HASK
    clear hd hX hS hst hby
    unfold ansV at HASK
    go_enter Tryz.func104, Tryz.ntmps104
    go_wp2_with (first
      | (go_at_call 106; refine HASK.out.mono ?_; rintro e w1 ⟨rfl, hd1, ht1⟩; obtain ⟨y0, hq1⟩ := hd1.head; have HD1 := Lib.hid hd1; have HT1 := Lib.hid ht1; clear hd1 ht1)
      | (go_at_call 119; refine (DK.call (R := fun e _ => e = .returned (.int .i64 0)) (T := S.syncDir) (dk_mid HD1.out _) (fun FM hm => (by have := msyncDir_any p S FM _ hm; exact this))).mono ?_; rintro e w2 ⟨rfl, hd2, ht2⟩; have HD2 := Lib.hid hd2; have HT2 := Lib.hid ht2; clear hd2 ht2))
    go_ret
    exact ⟨rfl, dk_end HD2.out HT1.out ((Below.refl _ w1).alloc (Nat.le_refl _) _) HT2.out⟩
  · rw [wcall_no hst hz]
    rw [hst] at HASK
    simp only at HASK ⊢
    have hb : (z == 0) = false := by simpa using hz
    rw [hb] at HASK
    obtain ⟨by_, hby⟩ : ∃ b, b = askB 3 ins 0 := ⟨_, rfl⟩
    rw [← hby] at HASK
    clear hd hX hS hst hby hb hz
    unfold ansV at HASK
    go_enter Tryz.func104, Tryz.ntmps104
    go_wp2_with (go_at_call 106; refine HASK.out.mono ?_; rintro e w1 ⟨rfl, hd1, ht1⟩; obtain ⟨y0, hq1⟩ := hd1.head; have HD1 := Lib.hid hd1; have HT1 := Lib.hid ht1; clear hd1 ht1)
    go_ret
    exact ⟨rfl, (dk_mid HD1.out _).mono (fun k hk => (by rcases hk with hk | hk; exact .inl hk; exact .inr (by simp; omega))), HT1.out.then_ (Touch.alloc _ _)⟩
end Go.Proofs.YtdmcjomcbhdcbaaGreat
namespace Go.Proofs.YtdmcjomcbhdcbaaGreat
open Go.RowKit Go.Maps

set_option maxRecDepth 100000 in
set_option maxHeartbeats 4000000 in
theorem mflip_any (p : Nat) (S : Drv) (F : Nat → Prop) (s : Nm) (n : Int) (A : Option Addr) (pn c0 : Nat) (bs : List UInt8) (w : World) (hs : s.length ≤ maxLen) (hd : Md w p S F) (hS : MOk S) (hpn : pn = bs.length) (hpl : pn ≤ 1099511627776) (hpc : pn ≤ c0) (hr : Reads w w.heap.size 1 A pn (bs.map B8)) :
    Calls Tryz.prog 66 #[.pointer (some ⟨p, 0, none⟩), .string ⟨s.toArray⟩, .int .i64 n, .slice A pn c0] w fun e w' => e = .returned (.int .i64 (S.flip s n bs).2) ∧ Md w' p (S.flip s n bs).1 (grow F w w') ∧ Touch F w w' := by
  have HA := Lib.hid (mat_any p S F s w hs hd hS.now hS.snow)
  have HNM := Lib.hid (mnamed_nm s w hs)
  have HD := Lib.hid hd
  obtain ⟨L, h, hF⟩ := hd
  cases hn : named s with
  | false =>
    rw [hn] at HNM
    have HR : Hid (S.flip s n bs = (S, 91)) := by unfold Drv.flip; rw [if_neg (by rw [hn]; simp)]; have : S.find s = (none, 91) := by { unfold Drv.find; rw [hn]; rfl }; rw [this]; exact rfl
    rw [HR.out]
    clear hn h hF hS hr hpn
    go_enter Tryz.func66, Tryz.ntmps66
    go_wp2_with (go_at_call 86; refine HNM.out.mono ?_; rintro e w' ⟨rfl, rfl⟩)
    go_ret
    exact ⟨rfl, HD.out.mono fun k hk => .inl hk, Touch.refl _ _⟩
  | true =>
    rw [hn] at HNM
    by_cases hneg : n < 0
    · have HR : Hid (S.flip s n bs = (S, 2)) := by unfold Drv.flip; rw [if_pos ⟨hn, hneg⟩]; exact rfl
      rw [HR.out]
      clear hn h hF hS hr hpn
      go_enter Tryz.func66, Tryz.ntmps66
      go_wp2_with (go_at_call 86; refine HNM.out.mono ?_; rintro e w' ⟨rfl, rfl⟩)
      go_ret
      exact ⟨rfl, HD.out.mono fun k hk => .inl hk, Touch.refl _ _⟩
    · have hR0 : S.flip s n bs = match S.find s with | (none, e) => (S, e) | (some i, _) => if (S.len i : Int) ≤ n then (S, 0) else (S.flipTo i n.toNat bs (min bs.length (S.len i - n.toNat)), 0) := by unfold Drv.flip; rw [if_neg (fun h => hneg h.2)]; rfl
      rcases find_cases' S s with ⟨x, hx, hxx⟩ | ⟨i, hx, hg, _⟩
      · have HR : Hid (S.flip s n bs = (S, x)) := by rw [Hid, hR0, hx]
        rw [HR.out]
        rw [hx] at HA
        simp only [numI] at HA
        have hne : (x != 0) = true := by rcases hxx with rfl | rfl <;> rfl
        clear hx hxx hS h hF hn hR0 hr hpn
        go_enter Tryz.func66, Tryz.ntmps66
        go_wp2_with (first
          | (go_at_call 86; refine HNM.out.mono ?_; rintro e w' ⟨rfl, rfl⟩)
          | (go_at_call 98; refine HA.out.mono ?_; rintro e w' ⟨rfl, rfl⟩))
        go_ret
        exact ⟨rfl, HD.out.mono fun k hk => .inl hk, Touch.refl _ _⟩
      · obtain ⟨m, rfl⟩ := Int.eq_ofNat_of_zero_le (Int.not_lt.1 hneg)
        rw [hx] at HA
        simp only [numI] at HA
        have hi := hS.rlt s i hg
        obtain ⟨g, c, ad, cd, hv, hgl, hnc, hda, hcd, x1, x2, hfz⟩ := bod_get h.rows hi
        have c1 : w.cell? ⟨p, 1, none⟩ = some (.slice (some ⟨g, 0, none⟩) S.bodies.length c) := by have := h.head.cell 1; rw [this]; show some L.vb = _; rw [hv]
        have hplt := h.head.lt
        have hlen := hS.len i
        have hrow := h.rows.data i hi
        rw [hda] at hrow
        have HRD : Hid (∀ W, Below w.heap.size w W → Reads W W.heap.size 1 ad (S.len i) ((S.body i).data.map B8)) := Lib.hid fun W hW => (((Reads.of_own hrow).below hW).more hW.size)
        have HRB : Hid (∀ W, Below w.heap.size w W → Reads W w.heap.size 1 A pn (bs.map B8)) := Lib.hid fun W hW => hr.below hW
        obtain ⟨li, hli⟩ : ∃ li, li = S.len i := ⟨_, rfl⟩
        obtain ⟨r, hrr⟩ : ∃ r, r = min pn (li - m) := ⟨_, rfl⟩
        have HR : Hid (S.flip s m bs = if (S.len i : Int) ≤ m then (S, 0) else (S.flipTo i m bs r, 0)) := by rw [Hid, hR0, hx]; simp only; rw [hrr, hli, hpn]; rfl
        have HR0 : Hid (r = 0 ∨ ¬ (S.len i : Int) ≤ m) := Lib.hid (by by_cases hge : li ≤ m; (left; omega); (right; omega))
        rw [← hli] at x1 hlen hcd HRD
        have HLI := Lib.hid hli
        obtain ⟨nb, hnb⟩ : ∃ nb, nb = S.bodies.length := ⟨_, rfl⟩
        have hnbl := hS.nb
        rw [← hnb] at c1 hi hnc hnbl
        have hi0 : (0 : Int) ≤ (i : Int) := by omega
        have hi1 : (i : Int) < (nb : Int) := by omega
        have HH := Lib.hid h
        have HFF := Lib.hid hF
        have HV := Lib.hid hv
        have HFG : Hid (F g) := Lib.hid (hF g (.inr (.inl (by rw [hv]; rfl))))
        have HNB := Lib.hid hnb
        have HPG : Hid (p ≠ g) := Lib.hid fun e => by
          have hb := h.rows.bod
          rw [hv] at hb
          exact own_blk_ne hb h.head (by decide) (by rw [e]; rfl)
        have HQ : Hid (∀ V, Below w.heap.size w V → V.cell? ⟨p, 1, none⟩ = some (.slice (some ⟨g, 0, none⟩) nb c)) := Lib.hid fun V hV => (hV.cell (p := ⟨p, 1, none⟩) hplt).trans c1
        have HFR : Hid (∀ V, Below w.heap.size w V → ∀ j, V.frozen? ⟨g, j, none⟩ = false) := Lib.hid fun V hV j => by rw [World.frozen?_of_block (hV.block g hgl)]; exact hfz j
        have HX1 : Hid (∀ V, Below w.heap.size w V → V.cell? ⟨g, i * 2, none⟩ = some (.slice ad li cd)) := Lib.hid fun V hV => (hV.cell (p := ⟨g, i * 2, none⟩) hgl).trans x1
        have hr1 : r ≤ pn := by omega
        have hr2 : r ≤ li - m := by omega
        have HRR := Lib.hid hrr
        have HPN := Lib.hid hpn
        clear hx hg hS h hF hv hda hnb hn hR0 hli hrow hneg hr hrr hpn
        go_enter Tryz.func66, Tryz.ntmps66
        go_wp2_with (first
          | (go_at_call 86; refine HNM.out.mono ?_; rintro e w' ⟨rfl, rfl⟩)
          | (go_at_call 98; refine HA.out.mono ?_; rintro e w' ⟨rfl, rfl⟩)
          | (go_at_call 88; (refine (copied_any ad li cd (S.body i).data w (HRD.out _ (Below.refl _ _)) (by omega)).mono ?_); rintro e w2 ⟨v2, rfl, ho2, hb2⟩; obtain ⟨a2, c2', rfl, hc2'⟩ := own_shape ho2; have HO2 : Hid (w2.ownsRow w.heap.size 5 1 (.slice a2 li c2') li ((S.body i).data.map B8)) := Lib.hid ho2; have HB2 : Hid (Below w.heap.size w w2) := Lib.hid hb2; clear ho2 hb2))
        go_loopw [13] (fun s wr => ∃ k : Nat, k ≤ r ∧ s = .int .i64 k ∧ wr.ownsRow w.heap.size 5 1 (.slice a2 li c2') li ((xorAt (S.body i).data m bs k).map B8) ∧ Below w.heap.size w wr) (fun s _ => r - (intOf s).toNat)
        case atStart => exact ⟨0, Nat.zero_le _, rfl, HO2.out, HB2.out⟩
        case round =>
          obtain ⟨k, hk, rfl, hown, hbel⟩ := hrel
          have hsz : w.heap.size ≤ wr.heap.size := hbel.size
          have hw1 : IntKind.i64.wrap ((li : Int) - (k : Int)) = (li : Int) - (k : Int) := IntWalk.i64_in _ (by omega)
          by_cases hlt : k < r
          · obtain ⟨ad3, u, rfl, hbl3, hu, hcu⟩ := (HRB.out _ hbel).at_ (k := k) (by omega)
            obtain ⟨b, hb, rfl⟩ : ∃ b, bs[k]? = some b ∧ B8 b = u := by simpa [List.getElem?_map] using hu
            obtain ⟨x, hx⟩ : ∃ x, (xorAt (S.body i).data m bs k)[m + k]? = some x := ⟨_, List.getElem?_eq_getElem (by rw [xorAt_length]; have e1 : (S.body i).data.length = S.len i := rfl; have e2 := HLI.out; omega)⟩
            obtain ⟨g2, rfl⟩ : ∃ g2, a2 = some ⟨g2, 0, none⟩ := by
              rcases hown.2 with ⟨_, h0⟩ | ⟨g2, _, _, e, _⟩
              · omega
              · injection e with e; exact ⟨g2, e⟩
            have hgc : wr.cell? ⟨g2, m + k, none⟩ = some (.int .u8 (x.toNat : Int)) := by
              obtain ⟨ad2, u2, e2, _, hu2, hc2⟩ := (Reads.of_own hown).at_ (k := m + k) (by omega)
              injection e2 with e2
              subst e2
              rw [List.getElem?_map, hx] at hu2
              injection hu2 with hu2
              subst hu2
              rw [add_plain, Nat.zero_add] at hc2
              exact hc2
            have hcw : wr.cell? (ad3.add k) = some (.int .u8 (b.toNat : Int)) := hcu
            have hgf : ∀ j, wr.frozen? ⟨g2, j, none⟩ = false := fun j => hown.frozenAt j
            have hg2 : g2 < wr.heap.size ∧ w.heap.size ≤ g2 := by have := hown.lt g2 rfl; omega
            obtain ⟨hg2a, hg2b⟩ := hg2
            have HNX : Hid ((wr.setCell ⟨g2, m + k, none⟩ (B8 (x ^^^ b))).ownsRow w.heap.size 5 1 (.slice (some ⟨g2, 0, none⟩) li c2') li ((xorAt (S.body i).data m bs (k + 1)).map B8)) := Lib.hid (by
              have h1 := (hown.stored (m + k) (B8 (x ^^^ b))).1
              rw [← List.map_set] at h1
              simp only [xorAt]
              rw [List.getD_eq_getElem?_getD, hx, List.getD_eq_getElem?_getD, hb]
              exact h1)
            have HXC := Lib.hid (xor_cell x b)
            have HBN : Hid (Below w.heap.size w (wr.setCell ⟨g2, m + k, none⟩ (B8 (x ^^^ b)))) := Lib.hid (hbel.setCell hg2b _)
            have hw2 : IntKind.i64.wrap ((m : Int) + (k : Int)) = (m : Int) + (k : Int) := IntWalk.i64_in _ (by omega)
            have hk0 : (0 : Int) ≤ (k : Int) := by omega
            have hk1 : (k : Int) < (pn : Int) := by omega
            have hmk0 : (0 : Int) ≤ (m : Int) + (k : Int) := by omega
            have hmk1 : (m : Int) + (k : Int) < (li : Int) := by omega
            have t1 : (m : Int) < (li : Int) - (k : Int) := by omega
            clear hown hbel hu hcu hb hx
            go_wp2
            go_region
            all_goals
              go_wp2
              rw [HXC.out]
              go_roundw
              case rel => exact ⟨k + 1, by omega, by go_num, row_drew HNX.out, below_drew1 HBN.out⟩
              case measure => simp [intOf]; omega
          · have hkr : k = r := by omega
            subst hkr
            have HO := Lib.hid hown
            have HB := Lib.hid hbel
            have z1 := HQ.out _ hbel
            have z2 := HX1.out _ hbel
            have z3 := HFR.out _ hbel
            have hgV : g < wr.heap.size := by omega
            clear hown hbel
            have hend : pn ≤ k ∨ (k < pn ∧ ¬ (m : Int) < (li : Int) - (k : Int)) := by have := HRR.out; omega
            have fin : ∀ V, V = wr.setCell ⟨g, i * 2, none⟩ (.slice a2 li c2') → Md V p (S.flip s m bs).1 (grow F w V) ∧ Touch F w V ∧ (S.flip s m bs).2 = 0 := by
              rintro V rfl
              have h1 : MdAt wr p S L := HH.out.keep fun k hk => HB.out.block k (HH.out.lt hk)
              have h2 := h1.setDat HV.out (by rw [← HNB.out]; exact hi) (d := .slice a2 li c2') (bs := xorAt (S.body i).data m bs k) (n := li) (by rw [xorAt_length]; exact HLI.out) (ownsRow_base_a HO.out (Nat.zero_le _))
              have h3 : Md (wr.setCell ⟨g, i * 2, none⟩ (.slice a2 li c2')) p (S.flipTo i m bs k) (grow F w (wr.setCell ⟨g, i * 2, none⟩ (.slice a2 li c2'))) :=
                ⟨_, h2, MLay.foot_dat (fun k hk => .inl (HFF.out k hk)) fun k hk => .inr (by have := HO.out.lt k hk; rw [size_set']; exact this)⟩
              have ht : Touch F w (wr.setCell ⟨g, i * 2, none⟩ (.slice a2 li c2')) := (Touch.of_below HB.out).then_ (Touch.setCell _ _ _ HFG.out)
              rw [HR.out]
              split
              · rename_i hge
                rcases HR0.out with h0 | h0
                · refine ⟨?_, ht, rfl⟩
                  rw [h0] at h3
                  exact h3.nop
                · exact absurd hge (by omega)
              · exact ⟨h3, ht, rfl⟩
            have FIN := Lib.hid fin
            clear fin
            rcases hend with hend | ⟨hkp, hend⟩
            · have t1 : ¬ (k : Int) < (pn : Int) := by omega
              go_wp2
              go_ret
              obtain ⟨f1, f2, f3⟩ := FIN.out _ rfl
              exact ⟨by rw [f3]; rfl, f1, f2⟩
            · go_wp2
              go_ret
              obtain ⟨f1, f2, f3⟩ := FIN.out _ rfl
              exact ⟨by rw [f3]; rfl, f1, f2⟩
end Go.Proofs.YtdmcjomcbhdcbaaGreat

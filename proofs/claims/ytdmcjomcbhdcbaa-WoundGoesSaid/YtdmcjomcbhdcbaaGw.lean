/- WoundGoes: the walk. -/
import Derived.Test.YtdmcjomcbhdcbaaGf
import Derived.Test.YtdmcjomcbhdcbaaFp
import Derived.Deep.RegionHeld3
import Derived.Deep.DeepCutAuto
namespace Go.Proofs.Ytdmcjomcbhdcbaa
open Go.RowKit Go.Maps

/-- The gate's row of faults. -/
abbrev GCells.row (g : GCells) : Value := .slice g.pa g.pn g.pc
/-- What a step of 'led' leaves. -/
def LedOut (w w' : World) (p : Nat) (F : Nat → Prop) (g : GCells) (X : Wnd) (T : Drv) (sd : Said) (e : Ending) : Prop :=
  ∃ u g' F', e = .returned (.tuple #[u, .agg (gcells g')]) ∧ SaidAt w' w.heap.size u sd ∧ Dr w' p T F' ∧ (∀ k, F' k → grow F w w' k) ∧ Touch F w w' ∧ GateOf X g' ∧
    w'.ownsRow 0 46 2 g'.row g'.pn (planCells X.plan) ∧ ∀ k, g'.row.ownBlock = some k → ¬F' k ∧ (g.row.ownBlock = some k ∨ w.heap.size ≤ k)
section
variable {w w' : World} {p : Nat} {F : Nat → Prop} {g g' : GCells} {X Y : Wnd} {S T : Drv} {sd : Said} {u : Value}
theorem LedOut.still (hd : Dr w p S F) (hr : w.ownsRow 0 46 2 g.row g.pn (planCells X.plan)) (hf : ∀ k, g.row.ownBlock = some k → ¬F k)
    (hs : SaidAt w' w.heap.size u sd) (hb : Below w.heap.size w w') (hg : GateOf Y g') (hp : Y.plan = X.plan) (h1 : g'.row = g.row) (h2 : g'.pn = g.pn) : LedOut w w' p F g Y S sd (.returned (.tuple #[u, .agg (gcells g')])) :=
  ⟨u, g', F, rfl, hs, hd.below hb, fun k hk => .inl hk, Touch.of_below hb, hg, by rw [h1, h2, hp]; exact ownsRow_below hr hb, fun k hk => by rw [h1] at hk; exact ⟨hf k hk, .inl hk⟩⟩
theorem LedOut.moved (hr : w.ownsRow 0 46 2 g.row g.pn (planCells X.plan)) (hf : ∀ k, g.row.ownBlock = some k → ¬F k)
    (hs : SaidAt w' w.heap.size u sd) (hd : Dr w' p T (grow F w w')) (ht : Touch F w w') (hg : GateOf Y g') (hp : Y.plan = X.plan) (h1 : g'.row = g.row) (h2 : g'.pn = g.pn) : LedOut w w' p F g Y T sd (.returned (.tuple #[u, .agg (gcells g')])) :=
  ⟨u, g', grow F w w', rfl, hs, hd, fun k hk => hk, ht, hg, by rw [h1, h2, hp]; exact ownsRow_keep hr fun k hk => ht.block k (hr.lt k hk).2 (hf k hk), fun k hk => by
    rw [h1] at hk
    refine ⟨fun hk2 => ?_, .inl hk⟩
    rcases hk2 with h | h
    · exact hf k hk h
    · have := (hr.lt k hk).2; omega⟩
end
theorem gkind_cases (k : Int) : gkind k = 1 ∨ gkind k = 2 ∨ gkind k = 3 := by
  unfold gkind
  split
  · exact .inl rfl
  · split
    · exact .inr (.inl rfl)
    · exact .inr (.inr rfl)
theorem gkind_two (k : Int) : gkind k = 2 ↔ k = 2 := by
  unfold gkind
  split
  · omega
  · split <;> omega

theorem led25_any (p : Nat) (S : Drv) (N : Nat) (F : Nat → Prop) (x : PStep) (L : SLay) (g : GCells) (X : Wnd) (w : World) (hx : x.Fits) (hd : Dr w p S F) (hF : ∀ k, F k → k < w.heap.size) (hI : S.Inv N) (hN : N ≤ 2199023254000) (B : Nat) (hB : B ≤ w.heap.size) (hxa : StepAt w B L x) (hX : X.Ok) (hg : GateOf X g)
    (hr : w.ownsRow 0 46 2 g.row g.pn (planCells X.plan)) (hf : ∀ k, g.row.ownBlock = some k → ¬F k) :
    Calls Try.prog 36 #[.agg (gcells g), .pointer (some ⟨p, 0, none⟩), .agg (stepCells x L)] w fun e w' => LedOut w w' p F g (hurt25 X S x).1 (hurt25 X S x).2.1 (hurt25 X S x).2.2 e := by
  have hS := hI.small hN
  by_cases h8 : 1 ≤ x.kind ∧ x.kind ≤ 8
  · rw [hurt25_call h8]
    cases h1 : X.down with
    | true =>
      rw [hurt8_stop h8 (struck_down h1 _) (by decide), if_neg (by omega)]
      refine (led_stop p S F x L g w h8 hx hd hF hS B hB hxa 0 122 (by omega) g (fun W _ => ask_down g _ _ W (hg.d.trans h1))).mono ?_
      rintro e w' ⟨u, rfl, hs, hb⟩
      exact .still hd hr hf hs hb hg rfl rfl rfl
    | false =>
      cases h2 : X.away with
      | true =>
        rw [hurt8_stop h8 (struck_away h1 h2 _) (by decide), if_neg (by omega)]
        refine (led_stop p S F x L g w h8 hx hd hF hS B hB hxa 0 121 (by omega) g (fun W _ => ask_away g _ _ W (hg.d.trans h1) (hg.a.trans h2))).mono ?_
        rintro e w' ⟨u, rfl, hs, hb⟩
        exact .still hd hr hf hs hb hg rfl rfl rfl
      | false =>
        have gk := hX.calls
        have gr := hX.round
        rw [← hg.k] at gk
        rw [← hg.r] at gr
        cases h3 : X.hits with
        | true =>
          have hgh : g.hits = true := hg.hits.trans h3
          have hin := hg.inside h3
          rw [hurt8_stop h8 (struck_hit h1 h2 h3 _) (by decide)]
          by_cases hc : x.kind = 2 ∧ 0 < X.inside ∧ x.data ≠ []
          · rw [if_pos hc]
            have hlen : 0 < x.data.length := List.length_pos_iff.2 hc.2.2
            have h0 : 0 < g.I := by have := hc.2.1; rw [hin] at this; omega
            have hnn : ((min g.I (x.data.length : Int)).toNat : Int) = max 0 (min g.I x.data.length) := by omega
            have htk : x.data.take X.inside.toNat = x.data.take (min g.I (x.data.length : Int)).toNat := by
              rw [hin]
              by_cases hle : g.I ≤ (x.data.length : Int)
              · rw [show (max 0 g.I).toNat = (min g.I (x.data.length : Int)).toNat by omega]
              · rw [List.take_of_length_le (by omega), List.take_of_length_le (by omega)]
            rw [htk]
            refine (led_cut p S F x L g w h8 hx hd hF hS B hB hxa (min g.I (x.data.length : Int)).toNat 122 (by omega) (by omega) { g.count with d := true } (fun W _ => ?_)).mono ?_
            · have := ask_hits g (gkind x.kind) x.data.length W (hg.d.trans h1) (hg.a.trans h2) hgh (gkind_cases _) (Int.natCast_nonneg _) gk gr
              rw [if_pos ((gkind_two _).2 hc.1), ← hnn] at this
              exact this
            · rintro e w' ⟨u, rfl, hs, hd2, ht⟩
              exact .moved hr hf hs hd2 ht hg.cut rfl rfl rfl
          · rw [if_neg hc]
            refine (led_stop p S F x L g w h8 hx hd hF hS B hB hxa (if gkind x.kind = 2 then max 0 (min g.I x.data.length) else 0) 122 ?_ { g.count with d := true } (fun W _ => ask_hits g _ _ W (hg.d.trans h1) (hg.a.trans h2) hgh (gkind_cases _) (Int.natCast_nonneg _) gk gr)).mono ?_
            · split
              · rename_i hk2
                intro hpos
                refine hc ⟨(gkind_two _).1 hk2, by rw [hin]; omega, fun e => ?_⟩
                rw [e] at hpos
                simp at hpos
                omega
              · omega
            · rintro e w' ⟨u, rfl, hs, hb⟩
              exact .still hd hr hf hs hb hg.cut rfl rfl rfl
        | false =>
          have hgh : g.hits = false := hg.hits.trans h3
          have hpl : g.pn ≤ 8796093021952 := by rw [hg.pn]; exact hX.plan
          have hask := fun (W : World) (hW : Below w.heap.size w W) => ask_goes g (gkind x.kind) x.data.length X.plan 0 W (hg.d.trans h1) (hg.a.trans h2) hgh (gkind_cases _) hg.pn (ownsRow_below hr hW) hpl gk gr
          rw [gmay_gkind, hg.k] at hask
          by_cases hz : Wnd.scan (gmay x.kind) X.calls X.plan = 0
          · rw [hz] at hask
            have hst : X.struck (gmay x.kind) = (X.count, 0, -1) := by rw [struck_goes h1 h2 h3, hz]
            rw [hurt8_pass h8 hst]
            refine (led_goes p S F x L g w h8 hx hd hF hS B hB hxa g.count (fun W hW => hask W hW)).mono ?_
            rintro e w' ⟨u, rfl, hs, hd2, ht⟩
            exact .moved hr hf hs hd2 ht hg.count rfl rfl rfl
          · rw [hurt8_stop h8 (struck_goes h1 h2 h3 _) hz, if_neg (by omega)]
            have hb0 : (Wnd.scan (gmay x.kind) X.calls X.plan == 0) = false := by simpa using hz
            rw [hb0] at hask
            refine (led_stop p S F x L g w h8 hx hd hF hS B hB hxa 0 _ (by omega) g.count (fun W hW => hask W hW)).mono ?_
            rintro e w' ⟨u, rfl, hs, hb⟩
            exact .still hd hr hf hs hb hg.count rfl rfl rfl
  · by_cases h16 : 1 ≤ x.kind ∧ x.kind ≤ 16
    · rcases (show x.kind = 9 ∨ x.kind = 10 ∨ x.kind = 11 ∨ x.kind = 12 ∨ x.kind = 13 ∨ x.kind = 14 ∨ x.kind = 15 ∨ x.kind = 16 by omega) with e | e | e | e | e | e | e | e
      · rw [hurt25_arm e]
        refine (led_arm p S F x L g w e hx hd hF hS B hB hxa).mono ?_
        rintro e w' ⟨u, pa, pc, rfl, hs, ho, hb⟩
        refine ⟨u, _, F, rfl, hs, hd.below hb, fun k hk => .inl hk, Touch.of_below hb, hg.arm x.plan pa pc, ownsRow_base_a ho (Nat.zero_le _), fun k hk => ⟨fun hk2 => ?_, .inr (ho.lt k hk).1⟩⟩
        have h1 := (ho.lt k hk).1
        have h2 := hF k hk2
        omega
      · rw [hurt25_calls e, ← hg.k]
        refine (led_calls p S F x L g w e hx hd hF hS B hB hxa).mono ?_
        rintro e w' ⟨u, rfl, hs, hb⟩
        exact .still hd hr hf hs hb hg rfl rfl rfl
      · rw [hurt25_offline e]
        refine (led_offline p S F x L g w e hx hd hF hS B hB hxa).mono ?_
        rintro e w' ⟨u, rfl, hs, hb⟩
        exact .still hd hr hf hs hb (hg.offline _) rfl rfl rfl
      · rw [hurt25_fuse e]
        refine (led_fuse p S F x L g w e hx hd hF hS B hB hxa).mono ?_
        rintro e w' ⟨u, rfl, hs, hb⟩
        exact .still hd hr hf hs hb (hg.fuse _ _ _) rfl rfl rfl
      · rw [hurt25_lit e, ← hg.struck]
        refine (led_struck p S F x L g w e hx hd hF hS B hB hxa).mono ?_
        rintro e w' ⟨u, rfl, hs, hb⟩
        exact .still hd hr hf hs hb hg rfl rfl rfl
      · rw [hurt25_rest e]
        refine (led_rest p S F x L g w e hx hd hF hS B hB hxa (hg.round hX)).mono ?_
        rintro e w' ⟨u, rfl, hs, hb⟩
        exact .still hd hr hf hs hb (hg.rest _) rfl rfl rfl
      · rw [hurt25_power e]
        refine (led_power p S F x L g w e hx hd hF hS B hB hxa).mono ?_
        rintro e w' ⟨u, rfl, hs, hb⟩
        exact .still hd hr hf hs hb (hg.power _) rfl rfl rfl
      · rw [hurt25_on e, ← hg.d]
        refine (led_on p S F x L g w e hx hd hF hS B hB hxa).mono ?_
        rintro e w' ⟨u, rfl, hs, hb⟩
        exact .still hd hr hf hs hb hg rfl rfl rfl
    · rw [hurt25_own h16]
      refine (led_other p S F x L g w h16 hx hd hF hS B hB hxa N hI hN).mono ?_
      rintro e w' ⟨u, rfl, hs, hd2, ht⟩
      exact .moved hr hf hs hd2 ht hg rfl rfl rfl

theorem Blk.touch {w w' : World} {g : Nat} {t : TypeId} {cs : Array Value} {F : Nat → Prop} (h : Blk w g t cs) (ht : Touch F w w') (hn : ¬F g) : Blk w' g t cs := (ht.block g h.lt hn).trans h
theorem script_cells2 {W : World} {b off k : Nat} {x : PStep} {L : SLay} (h : W.rangeAt b (off + k * 11) (stepCells x L).toList) : W.cell? ⟨b, off + k * 11, none⟩ = some (.int .i64 x.kind) ∧ W.cell? ⟨b, off + k * 11 + 1, none⟩ = some (.string x.name) ∧ W.cell? ⟨b, off + k * 11 + 2, none⟩ = some (.string x.to) ∧ W.cell? ⟨b, off + k * 11 + 3, none⟩ = some (.slice L.pd x.data.length L.cd) ∧ W.cell? ⟨b, off + k * 11 + 4, none⟩ = some (.int .i64 x.a) ∧ W.cell? ⟨b, off + k * 11 + 5, none⟩ = some (.int .i64 x.b) ∧ W.cell? ⟨b, off + k * 11 + 6, none⟩ = some (.int .i64 x.c) ∧ W.cell? ⟨b, off + k * 11 + 7, none⟩ = some (.bool x.yes) ∧ W.cell? ⟨b, off + k * 11 + 8, none⟩ = some (.slice L.pp x.plan.length L.cp) ∧ W.cell? ⟨b, off + k * 11 + 9, none⟩ = some (.slice L.pr x.dirs.length L.cr) ∧ W.cell? ⟨b, off + k * 11 + 10, none⟩ = some (.slice L.pc x.cuts.length L.cc) :=
  ⟨h 0 _ rfl, h 1 _ rfl, h 2 _ rfl, h 3 _ rfl, h 4 _ rfl, h 5 _ rfl, h 6 _ rfl, h 7 _ rfl, h 8 _ rfl, h 9 _ rfl, h 10 _ rfl⟩
theorem gate_set9 (g g' : GCells) : (((((((((gcells g).setIfInBounds 0 (.bool g'.d)).setIfInBounds 1 (.bool g'.a)).setIfInBounds 2 (.slice g'.pa g'.pn g'.pc)).setIfInBounds 3 (.int .i64 g'.k)).setIfInBounds 4 (.int .i64 g'.r)).setIfInBounds 5 (.bool g'.laid)).setIfInBounds 6 (.int .i64 g'.R)).setIfInBounds 7 (.int .i64 g'.C)).setIfInBounds 8 (.int .i64 g'.I) = gcells g' := by
  unfold gcells
  simp

/-- What stands at the head of a round. -/
structure GoesAt (w : World) (h q p t gb k : Nat) : Prop where
  ex : ∃ X S g F1 F2, Two w h q p X S t S F1 F2 ∧ X.OkN k ∧ S.Inv k ∧ S.room ≤ 400 ∧ GateOf X g ∧ w.ownsRow 0 46 2 g.row g.pn (planCells X.plan) ∧ (∀ i, g.row.ownBlock = some i → ¬F1 i ∧ ¬F2 i ∧ h ≤ i ∧ i ≠ gb) ∧ Blk w gb 61 (gcells g) ∧ ¬F1 gb ∧ ¬F2 gb ∧ h ≤ gb
/-- What stands behind the gate's word, ahead of the wound's. -/
structure GoMid (wx wr : World) (t gb : Nat) (g : GCells) (F2 : Nat → Prop) (Y : Wnd) (T : Drv) (sd : Said) (ga gc : Nat) (d m f : Value) (g' : GCells) (F2' : Nat → Prop) : Prop where
  sc : wx.cell? ⟨ga, 0, none⟩ = some (.int .i64 sd.e) ∧ wx.cell? ⟨ga, 1, none⟩ = some d ∧ wx.cell? ⟨ga, 2, none⟩ = some m ∧ wx.cell? ⟨ga, 3, none⟩ = some f ∧ wx.cell? ⟨ga, 4, none⟩ = some (.int .i64 sd.n) ∧ wx.cell? ⟨ga, 5, none⟩ = some (.bool sd.yes)
  gat : wx.cell? ⟨gc, 0, none⟩ = some (.bool g'.d) ∧ wx.cell? ⟨gc, 1, none⟩ = some (.bool g'.a) ∧ wx.cell? ⟨gc, 2, none⟩ = some (.slice g'.pa g'.pn g'.pc) ∧ wx.cell? ⟨gc, 3, none⟩ = some (.int .i64 g'.k) ∧ wx.cell? ⟨gc, 4, none⟩ = some (.int .i64 g'.r) ∧ wx.cell? ⟨gc, 5, none⟩ = some (.bool g'.laid) ∧ wx.cell? ⟨gc, 6, none⟩ = some (.int .i64 g'.R) ∧ wx.cell? ⟨gc, 7, none⟩ = some (.int .i64 g'.C) ∧ wx.cell? ⟨gc, 8, none⟩ = some (.int .i64 g'.I)
  sat : SaidAt wx wr.heap.size (.agg #[.int .i64 sd.e, d, m, f, .int .i64 sd.n, .bool sd.yes]) sd
  dr : Dr wx t T F2'
  sub : ∀ i, F2' i → grow F2 wr wx i
  touch : Touch F2 wr wx
  gate : GateOf Y g'
  row : wx.ownsRow 0 46 2 g'.row g'.pn (planCells Y.plan)
  free : ∀ i, g'.row.ownBlock = some i → ¬F2' i ∧ (g.row.ownBlock = some i ∨ wr.heap.size ≤ i)
  la : wr.heap.size ≤ ga ∧ ga < wx.heap.size
  lc : wr.heap.size ≤ gc ∧ gc < wx.heap.size

theorem SaidAt.mk' {w : World} {base : Nat} {x : Said} {d n f : Value} (h1 : w.ownsRow base 5 1 d x.data.length (x.data.map B8)) (h2 : w.ownsRow base 9 1 n x.names.length (x.names.map strV)) (h3 : FilesAt w base f x.files) : SaidAt w base (.agg #[.int .i64 x.e, d, n, f, .int .i64 x.n, .bool x.yes]) x := ⟨d, n, f, rfl, h1, h2, h3⟩
theorem GoMid.of {C wx wr v8 : World} {t gb : Nat} {g : GCells} {F2 : Nat → Prop} {Y : Wnd} {T : Drv} {sd : Said} {ga gc : Nat} {d m f : Value} {g' : GCells} {F2' : Nat → Prop}
    (hC : wr.heap.size ≤ C.heap.size) (h2 : ∀ i, F2 i → i < wr.heap.size) (hr : ∀ i, g.row.ownBlock = some i → i < wr.heap.size)
    (hs : SaidAt v8 C.heap.size (.agg #[.int .i64 sd.e, d, m, f, .int .i64 sd.n, .bool sd.yes]) sd) (hd : Dr v8 t T F2') (hsub : ∀ i, F2' i → grow F2 C v8 i) (ht8 : Touch F2 wr v8) (hg : GateOf Y g')
    (hrow : v8.ownsRow 0 46 2 g'.row g'.pn (planCells Y.plan)) (hfree : ∀ i, g'.row.ownBlock = some i → ¬F2' i ∧ (g.row.ownBlock = some i ∨ C.heap.size ≤ i))
    (hcv : C.heap.size ≤ v8.heap.size) (ht' : Touch (fun i => wr.heap.size ≤ i ∧ (i < C.heap.size ∨ v8.heap.size ≤ i)) v8 wx) (hsz : ga < wx.heap.size ∧ gc < wx.heap.size ∧ wr.heap.size ≤ ga ∧ wr.heap.size ≤ gc)
    (sc : wx.cell? ⟨ga, 0, none⟩ = some (.int .i64 sd.e) ∧ wx.cell? ⟨ga, 1, none⟩ = some d ∧ wx.cell? ⟨ga, 2, none⟩ = some m ∧ wx.cell? ⟨ga, 3, none⟩ = some f ∧ wx.cell? ⟨ga, 4, none⟩ = some (.int .i64 sd.n) ∧ wx.cell? ⟨ga, 5, none⟩ = some (.bool sd.yes)) (gat : wx.cell? ⟨gc, 0, none⟩ = some (.bool g'.d) ∧ wx.cell? ⟨gc, 1, none⟩ = some (.bool g'.a) ∧ wx.cell? ⟨gc, 2, none⟩ = some (.slice g'.pa g'.pn g'.pc) ∧ wx.cell? ⟨gc, 3, none⟩ = some (.int .i64 g'.k) ∧ wx.cell? ⟨gc, 4, none⟩ = some (.int .i64 g'.r) ∧ wx.cell? ⟨gc, 5, none⟩ = some (.bool g'.laid) ∧ wx.cell? ⟨gc, 6, none⟩ = some (.int .i64 g'.R) ∧ wx.cell? ⟨gc, 7, none⟩ = some (.int .i64 g'.C) ∧ wx.cell? ⟨gc, 8, none⟩ = some (.int .i64 g'.I)) : GoMid wx wr t gb g F2 Y T sd ga gc d m f g' F2' := by
  have hz := ht'.size
  have ht : Touch (fun i => wr.heap.size ≤ i ∧ i < C.heap.size) v8 wx := ht'.mono fun i h1 h3 => ⟨h3.1, by omega⟩
  refine ⟨sc, gat, ?_, hd.keep ht fun i h1 h3 => ?_, fun i hi => ?_, ?_, hg, ownsRow_keep hrow fun i hi => ht.block i (hrow.lt i hi).2 fun h3 => ?_, fun i hi => ⟨(hfree i hi).1, ?_⟩, ⟨hsz.2.2.1, hsz.1⟩, ⟨hsz.2.2.2, hsz.2.1⟩⟩
  · have hs2 := hs.touch ht fun i hi => hi.2
    exact hs2.base hC
  · rcases hsub i h1 with h | h
    · have := h2 i h; omega
    · omega
  · rcases hsub i hi with h | h
    · exact .inl h
    · exact .inr ⟨by omega, by omega⟩
  · exact ht8.trans (ht.mono fun i h1 h3 => .inr ⟨h3.1, h1⟩)
  · rcases (hfree i hi).2 with h | h
    · have := hr i h; omega
    · omega
  · rcases (hfree i hi).2 with h | h
    · exact .inl h
    · exact .inr (by omega)
theorem GoesAt.next {wr wc wd v2 v3 : World} {h q p t gb k : Nat} {X Y : Wnd} {S T : Drv} {g g' : GCells} {F1 F2 F2' : Nat → Prop} {sd : Said} {ga gc : Nat} {d m f : Value}
    (htw : Two wr h q p X S t S F1 F2) (hgh : h ≤ gb) (hgl : gb < wr.heap.size) (hn1 : ¬F1 gb) (hn2 : ¬F2 gb) (hrf : ∀ i, g.row.ownBlock = some i → ¬F1 i ∧ ¬F2 i ∧ h ≤ i ∧ i ≠ gb) (hrl : ∀ i, g.row.ownBlock = some i → i < wr.heap.size)
    (hm : GoMid wc wr t gb g F2 Y T sd ga gc d m f g' F2') (htd : Touch (· = gb) wc wd) (hgd : Blk wd gb 61 (gcells g')) (hd2 : WD v2 q p Y T (grow F1 wd.drew v2)) (ht2 : Touch F1 wd.drew v2) (hb3 : Below v2.heap.size v2 v3)
    (hY : Y.OkN (k + 1)) (hI : T.Inv (k + 1)) (hr : T.room ≤ 400) (hh : h ≤ wr.heap.size) : GoesAt v3 h q p t gb (k + 1) := by
  have hz1 := hm.touch.size
  have hz2 := htd.size
  have hz3 : wd.heap.size ≤ v2.heap.size := ht2.size
  have hz4 := hb3.size
  have hf2 : ∀ i, F2' i → F2 i ∨ (wr.heap.size ≤ i ∧ i < wc.heap.size) := hm.sub
  have hF2 : ∀ i, F2' i → ¬F1 i := fun i hi h1 => by
    rcases hf2 i hi with h | h
    · exact htw.no i h1 h
    · have := (htw.l1 i h1).2; omega
  have hg2 : ¬F2' gb := fun hi => by
    rcases hf2 gb hi with h | h
    · exact hn2 h
    · omega
  have hd : Dr wd t T F2' := hm.dr.keep htd fun i h1 (h2 : i = gb) => hg2 (h2 ▸ h1)
  have hdd : Dr wd.drew t T F2' := hd.below (below_drewN (Below.refl _ wd) 1)
  have hrow : ∀ i, g'.row.ownBlock = some i → ¬F1 i ∧ i ≠ gb ∧ h ≤ i ∧ i < wc.heap.size := fun i hi => by
    have hl := (hm.row.lt i hi).2
    rcases (hm.free i hi).2 with h | h
    · exact ⟨(hrf i h).1, (hrf i h).2.2.2, (hrf i h).2.2.1, hl⟩
    · exact ⟨fun h1 => by have := (htw.l1 i h1).2; omega, by omega, by omega, hl⟩
  have hr1 : wd.ownsRow 0 46 2 g'.row g'.pn (planCells Y.plan) := ownsRow_keep hm.row fun i hi => htd.block i (hrow i hi).2.2.2 (hrow i hi).2.1
  have hr2 : v2.ownsRow 0 46 2 g'.row g'.pn (planCells Y.plan) := ownsRow_keep hr1 fun i hi => ht2.block i (by have := (hrow i hi).2.2.2; show i < wd.heap.size; omega) (hrow i hi).1
  have hb2 : Blk v2 gb 61 (gcells g') := (ht2.block gb (by show gb < wd.heap.size; omega) hn1).trans hgd
  refine ⟨Y, T, g', grow F1 wd.drew v2, F2', ⟨WD.below hd2 hb3, (hdd.keep ht2 hF2).below hb3, fun i hi => ?_, fun i hi => ?_, fun i hi h2 => ?_⟩, hY, hI, hr, hm.gate, ownsRow_below hr2 hb3, fun i hi => ⟨fun h1 => ?_, (hm.free i hi).1, (hrow i hi).2.2.1, (hrow i hi).2.1⟩, hb2.below hb3 hb2.lt, fun h1 => ?_, hg2, hgh⟩
  · rcases hi with h | h
    · exact ⟨(htw.l1 i h).1, by have := (htw.l1 i h).2; omega⟩
    · have h1 : wd.heap.size ≤ i := h.1
      exact ⟨by omega, by omega⟩
  · rcases hf2 i hi with h | h
    · exact ⟨(htw.l2 i h).1, by have := (htw.l2 i h).2; omega⟩
    · exact ⟨by omega, by omega⟩
  · rcases hi with h | h
    · exact hF2 i h2 h
    · have h1 : wd.heap.size ≤ i := h.1
      rcases hf2 i h2 with h | h
      · have := (htw.l2 i h).2; omega
      · omega
  · rcases h1 with h | h
    · exact (hrow i hi).1 h
    · have h1 : wd.heap.size ≤ i := h.1
      have := (hrow i hi).2.2.2; omega
  · rcases h1 with h | h
    · exact hn1 h
    · have h1 : wd.heap.size ≤ gb := h.1
      omega

set_option maxRecDepth 100000 in
set_option maxHeartbeats 20000000 in
theorem woundGoes_walk (n : Int) (aA : Option Addr) (nA cA : Nat) (xs : List PStep) (w : World) (hx : ScriptAt w w.heap.size aA nA xs) (hlA : nA * 168 ≤ 140737488351232) :
    Calls Try.prog 5 #[.int .i64 n, .slice aA nA cA] w fun e w' => e = .returned (.bool true) ∧ Below w.heap.size w w' := by
  have HX := Lib.hid hx
  clear hx
  have hr := roomI_bd n
  obtain ⟨r, hrr⟩ : ∃ r, r = roomI n := ⟨_, rfl⟩
  rw [← hrr] at hr
  have HRR := Lib.hid hrr
  clear hrr
  go_enter Try.func5, Try.ntmps5
  go_wp2_with fail
  refine (room_any n w).mono ?_
  rintro e w' ⟨rfl, rfl⟩
  rw [← HRR.out]
  go_wp2_with fail
  refine (newb_any r _ (by omega) (by omega)).mono ?_
  rintro e w1 ⟨p, rfl, hd1, hb1⟩
  have HD1 := Lib.hid hd1
  have HB1 := Lib.hid hb1
  clear hd1 hb1
  go_wp2_with fail
  refine (room_any n w1).mono ?_
  rintro e w' ⟨rfl, rfl⟩
  rw [← HRR.out]
  go_wp2_with fail
  refine (newb_any r _ (by omega) (by omega)).mono ?_
  rintro e w2 ⟨t, rfl, hd2, hb2⟩
  have HD2 := Lib.hid hd2
  have HB12 := Lib.hid hb2
  clear hd2 hb2
  go_wp2_with fail
  refine (wnew_any p w2).mono ?_
  rintro e w3 ⟨rfl, hw3, hb3, hs3⟩
  have HP3 : Hid (Pair w3 w.heap.size w2.heap.size p Wnd.new (Drv.new r.toNat) t (Drv.new r.toNat)) := Lib.hid (by
    have h1 := HB1.out.size
    have h2 := HB12.out.size
    refine ⟨fun k => k = w2.heap.size ∨ (w.heap.size ≤ k ∧ k < w1.heap.size), fun k => w1.heap.size ≤ k ∧ k < w2.heap.size, ⟨(· = w2.heap.size), fun k => w.heap.size ≤ k ∧ k < w1.heap.size, ⟨hw3, Dr.below (Dr.below HD1.out HB12.out) hb3, fun k hk => by omega, fun k hk => by omega, fun k hk hd => by omega⟩, fun k hk => hk⟩, Dr.below HD2.out hb3, fun k hk => by omega, fun k hk => by omega, fun k hk hd => by omega⟩)
  have HB3 : Hid (Below w.heap.size w w3) := Lib.hid (HB1.out.trans ((HB12.out.mono HB1.out.size).trans (hb3.mono (Nat.le_trans HB1.out.size HB12.out.size))))
  clear hw3 hb3 hs3
  go_wp2_with fail
  refine (known_any w3).mono ?_
  rintro e w4 ⟨rfl, hb4⟩
  have HP4 := Lib.hid (HP3.out.below hb4)
  have HB4 : Hid (Below w.heap.size w w4) := Lib.hid (HB3.out.trans (hb4.mono HB3.out.size))
  clear hb4
  obtain ⟨q, hq⟩ : ∃ q, q = w2.heap.size := ⟨_, rfl⟩
  rw [← hq] at HP4 ⊢
  clear hq
  go_wp2
  obtain ⟨gb, hgb⟩ : ∃ gb, gb = w4.heap.size := ⟨_, rfl⟩
  obtain ⟨w5, hw5⟩ : ∃ w5, w5 = w4.alloc (.cells #[.bool false, .bool false, .slice none 0 0, .int .i64 0, .int .i64 0, .bool false, .int .i64 0, .int .i64 0, .int .i64 0] 61) := ⟨_, rfl⟩
  rw [← hw5, ← hgb]
  have HI : Hid (GoesAt w5 w.heap.size q p t gb 0) := Lib.hid (by
    have hb45 : Below w4.heap.size w4 w5 := by rw [hw5]; exact (Below.refl _ _).alloc (Nat.le_refl _) _
    obtain ⟨F1, F2, htw⟩ := HP4.out.named
    refine ⟨Wnd.new, Drv.new r.toNat, ⟨false, false, none, 0, 0, 0, 0, false, 0, 0, 0⟩, F1, F2, htw.below hb45, Wnd.OkN.new, Drv.new_inv _ _ (by omega) (by omega), by show r.toNat ≤ 400; omega, GateOf.new, World.ownsRow_nil _ _ _ _, fun i hi => by simp [GCells.row, Value.ownBlock] at hi, by rw [hw5, hgb]; exact Blk.new _ _ _, fun hf => ?_, fun hf => ?_, by rw [hgb]; exact HB4.out.size⟩
    · have := (htw.l1 _ hf).2; omega
    · have := (htw.l2 _ hf).2; omega)
  have HB5 : Hid (Below w.heap.size w w5) := Lib.hid (by rw [hw5]; exact HB4.out.alloc HB4.out.size _)
  clear hgb hw5
  go_loopw [9] (fun s wr => ∃ k : Nat, k ≤ nA ∧ s = .int .i64 k ∧ GoesAt wr w.heap.size q p t gb k ∧ Below w.heap.size w wr) (fun s _ => nA - (intOf s).toNat)
  case atStart => exact ⟨0, Nat.zero_le _, rfl, HI.out, HB5.out⟩
  case round =>
    obtain ⟨k, hk, rfl, ⟨X, S, g, F1, F2, htw, hX, hSi, hSr, hg, hrow, hrf, hgbk, hn1, hn2, hgh⟩, hbr⟩ := hrel
    have HTW := Lib.hid htw
    have HXN := Lib.hid hX
    have HSI := Lib.hid hSi
    have HSR := Lib.hid hSr
    have HGO := Lib.hid hg
    have HROW := Lib.hid hrow
    have HRF := Lib.hid hrf
    have HGB := Lib.hid hgbk
    have HN1 := Lib.hid hn1
    have HN2 := Lib.hid hn2
    have HBR := Lib.hid hbr
    have HGH := Lib.hid hgh
    have hszr := hbr.size
    have hgbl : gb < wr.heap.size := hgbk.lt
    clear htw hX hSi hSr hg hrow hrf hgbk hn1 hn2 hbr
    by_cases hlt : k < nA
    · obtain ⟨x, hxk⟩ : ∃ x, xs[k]? = some x := ⟨_, List.getElem?_eq_getElem (by rw [HX.out.len]; exact hlt)⟩
      obtain ⟨b, off, L, rfl, hbl, hra0, hsa, hfi⟩ := HX.out.get k x hxk
      have HSA := Lib.hid hsa
      have HFC := Lib.hid hfi
      have hkn : k ≤ 2199023254000 := by omega
      have HSM := Lib.hid (HSI.out.small hkn)
      have HOK := Lib.hid (HXN.out.ok (by omega))
      have hbl1 : b < wr.heap.size := by omega
      have HNB : Hid (¬F2 b) := Lib.hid fun hf => by have := (HTW.out.l2 _ hf).1; omega
      have HL2 : Hid (∀ i, F2 i → i < wr.heap.size) := Lib.hid fun i hi => (HTW.out.l2 i hi).2
      have HRL : Hid (∀ i, g.row.ownBlock = some i → i < wr.heap.size) := Lib.hid fun i hi => (HROW.out.lt i hi).2
      have HCV : Hid (stepCells x L = #[.int .i64 x.kind, .string x.name, .string x.to, .slice L.pd x.data.length L.cd, .int .i64 x.a, .int .i64 x.b, .int .i64 x.c, .bool x.yes, .slice L.pp x.plan.length L.cp, .slice L.pr x.dirs.length L.cr, .slice L.pc x.cuts.length L.cc]) := Lib.hid rfl
      have HGV : Hid (gcells g = #[.bool g.d, .bool g.a, .slice g.pa g.pn g.pc, .int .i64 g.k, .int .i64 g.r, .bool g.laid, .int .i64 g.R, .int .i64 g.C, .int .i64 g.I]) := Lib.hid rfl
      have HS0 : Hid (∀ V : World, V.heap[gb]? = wr.heap[gb]? → V.heap[b]? = wr.heap[b]? → (V.cell? ⟨gb, 0, none⟩ = some (.bool g.d) ∧ V.cell? ⟨gb, 1, none⟩ = some (.bool g.a) ∧ V.cell? ⟨gb, 2, none⟩ = some (.slice g.pa g.pn g.pc) ∧ V.cell? ⟨gb, 3, none⟩ = some (.int .i64 g.k) ∧ V.cell? ⟨gb, 4, none⟩ = some (.int .i64 g.r) ∧ V.cell? ⟨gb, 5, none⟩ = some (.bool g.laid) ∧ V.cell? ⟨gb, 6, none⟩ = some (.int .i64 g.R) ∧ V.cell? ⟨gb, 7, none⟩ = some (.int .i64 g.C) ∧ V.cell? ⟨gb, 8, none⟩ = some (.int .i64 g.I)) ∧ V.cell? ⟨b, off + k * 11, none⟩ = some (.int .i64 x.kind) ∧ V.cell? ⟨b, off + k * 11 + 1, none⟩ = some (.string x.name) ∧ V.cell? ⟨b, off + k * 11 + 2, none⟩ = some (.string x.to) ∧ V.cell? ⟨b, off + k * 11 + 3, none⟩ = some (.slice L.pd x.data.length L.cd) ∧ V.cell? ⟨b, off + k * 11 + 4, none⟩ = some (.int .i64 x.a) ∧ V.cell? ⟨b, off + k * 11 + 5, none⟩ = some (.int .i64 x.b) ∧ V.cell? ⟨b, off + k * 11 + 6, none⟩ = some (.int .i64 x.c) ∧ V.cell? ⟨b, off + k * 11 + 7, none⟩ = some (.bool x.yes) ∧ V.cell? ⟨b, off + k * 11 + 8, none⟩ = some (.slice L.pp x.plan.length L.cp) ∧ V.cell? ⟨b, off + k * 11 + 9, none⟩ = some (.slice L.pr x.dirs.length L.cr) ∧ V.cell? ⟨b, off + k * 11 + 10, none⟩ = some (.slice L.pc x.cuts.length L.cc)) := Lib.hid fun V h1 h2 => ⟨gate_cells (h1.trans HGB.out), script_cells2 (rangeAt_far hra0 (h2.trans (HBR.out.block b hbl)))⟩
      have HST0 : Hid (∀ V : World, V.heap[b]? = wr.heap[b]? → V.cell? ⟨b, off + k * 11, none⟩ = some (.int .i64 x.kind) ∧ V.cell? ⟨b, off + k * 11 + 1, none⟩ = some (.string x.name) ∧ V.cell? ⟨b, off + k * 11 + 2, none⟩ = some (.string x.to) ∧ V.cell? ⟨b, off + k * 11 + 3, none⟩ = some (.slice L.pd x.data.length L.cd) ∧ V.cell? ⟨b, off + k * 11 + 4, none⟩ = some (.int .i64 x.a) ∧ V.cell? ⟨b, off + k * 11 + 5, none⟩ = some (.int .i64 x.b) ∧ V.cell? ⟨b, off + k * 11 + 6, none⟩ = some (.int .i64 x.c) ∧ V.cell? ⟨b, off + k * 11 + 7, none⟩ = some (.bool x.yes) ∧ V.cell? ⟨b, off + k * 11 + 8, none⟩ = some (.slice L.pp x.plan.length L.cp) ∧ V.cell? ⟨b, off + k * 11 + 9, none⟩ = some (.slice L.pr x.dirs.length L.cr) ∧ V.cell? ⟨b, off + k * 11 + 10, none⟩ = some (.slice L.pc x.cuts.length L.cc)) := Lib.hid fun V h2 => script_cells2 (rangeAt_far hra0 (h2.trans (HBR.out.block b hbl)))
      have HS1 : Hid (∀ V : World, Touch (fun i => wr.heap.size ≤ i) wr V → (V.cell? ⟨gb, 0, none⟩ = some (.bool g.d) ∧ V.cell? ⟨gb, 1, none⟩ = some (.bool g.a) ∧ V.cell? ⟨gb, 2, none⟩ = some (.slice g.pa g.pn g.pc) ∧ V.cell? ⟨gb, 3, none⟩ = some (.int .i64 g.k) ∧ V.cell? ⟨gb, 4, none⟩ = some (.int .i64 g.r) ∧ V.cell? ⟨gb, 5, none⟩ = some (.bool g.laid) ∧ V.cell? ⟨gb, 6, none⟩ = some (.int .i64 g.R) ∧ V.cell? ⟨gb, 7, none⟩ = some (.int .i64 g.C) ∧ V.cell? ⟨gb, 8, none⟩ = some (.int .i64 g.I)) ∧ V.cell? ⟨b, off + k * 11, none⟩ = some (.int .i64 x.kind) ∧ V.cell? ⟨b, off + k * 11 + 1, none⟩ = some (.string x.name) ∧ V.cell? ⟨b, off + k * 11 + 2, none⟩ = some (.string x.to) ∧ V.cell? ⟨b, off + k * 11 + 3, none⟩ = some (.slice L.pd x.data.length L.cd) ∧ V.cell? ⟨b, off + k * 11 + 4, none⟩ = some (.int .i64 x.a) ∧ V.cell? ⟨b, off + k * 11 + 5, none⟩ = some (.int .i64 x.b) ∧ V.cell? ⟨b, off + k * 11 + 6, none⟩ = some (.int .i64 x.c) ∧ V.cell? ⟨b, off + k * 11 + 7, none⟩ = some (.bool x.yes) ∧ V.cell? ⟨b, off + k * 11 + 8, none⟩ = some (.slice L.pp x.plan.length L.cp) ∧ V.cell? ⟨b, off + k * 11 + 9, none⟩ = some (.slice L.pr x.dirs.length L.cr) ∧ V.cell? ⟨b, off + k * 11 + 10, none⟩ = some (.slice L.pc x.cuts.length L.cc)) := Lib.hid fun V hV => HS0.out V (hV.block gb hgbl (by omega)) (hV.block b hbl1 (by omega))
      obtain ⟨Y, hY⟩ : ∃ Y, Y = (hurt25 X S x).1 := ⟨_, rfl⟩
      obtain ⟨T, hT⟩ : ∃ T, T = (hurt25 X S x).2.1 := ⟨_, rfl⟩
      obtain ⟨sd, hsd⟩ : ∃ sd, sd = (hurt25 X S x).2.2 := ⟨_, rfl⟩
      have HYT : Hid (Y = (hurt25 X S x).1 ∧ T = (hurt25 X S x).2.1 ∧ sd = (hurt25 X S x).2.2) := Lib.hid ⟨hY, hT, hsd⟩
      have hk0 : (0 : Int) ≤ (k : Int) := Int.natCast_nonneg _
      have hk1 : (k : Int) < (nA : Int) := by omega
      clear hra0 hsa hfi hxk hY hT hsd
      go_upto_region 10 with fail
      go_cut [10, 11] (fun s10 s11 wx => ∃ (ga gc : Nat) (d m f : Value) (g' : GCells) (F2' : Nat → Prop), s10 = .pointer (some ⟨ga, 0, none⟩) ∧ s11 = .pointer (some ⟨gc, 0, none⟩) ∧ GoMid wx wr t gb g F2 Y T sd ga gc d m f g' F2')
      case first =>
        go_region_held3 (fun w' => (w'.cell? ⟨gb, 0, none⟩ = some (.bool g.d) ∧ w'.cell? ⟨gb, 1, none⟩ = some (.bool g.a) ∧ w'.cell? ⟨gb, 2, none⟩ = some (.slice g.pa g.pn g.pc) ∧ w'.cell? ⟨gb, 3, none⟩ = some (.int .i64 g.k) ∧ w'.cell? ⟨gb, 4, none⟩ = some (.int .i64 g.r) ∧ w'.cell? ⟨gb, 5, none⟩ = some (.bool g.laid) ∧ w'.cell? ⟨gb, 6, none⟩ = some (.int .i64 g.R) ∧ w'.cell? ⟨gb, 7, none⟩ = some (.int .i64 g.C) ∧ w'.cell? ⟨gb, 8, none⟩ = some (.int .i64 g.I)) ∧ w'.cell? ⟨b, off + k * 11, none⟩ = some (.int .i64 x.kind) ∧ w'.cell? ⟨b, off + k * 11 + 1, none⟩ = some (.string x.name) ∧ w'.cell? ⟨b, off + k * 11 + 2, none⟩ = some (.string x.to) ∧ w'.cell? ⟨b, off + k * 11 + 3, none⟩ = some (.slice L.pd x.data.length L.cd) ∧ w'.cell? ⟨b, off + k * 11 + 4, none⟩ = some (.int .i64 x.a) ∧ w'.cell? ⟨b, off + k * 11 + 5, none⟩ = some (.int .i64 x.b) ∧ w'.cell? ⟨b, off + k * 11 + 6, none⟩ = some (.int .i64 x.c) ∧ w'.cell? ⟨b, off + k * 11 + 7, none⟩ = some (.bool x.yes) ∧ w'.cell? ⟨b, off + k * 11 + 8, none⟩ = some (.slice L.pp x.plan.length L.cp) ∧ w'.cell? ⟨b, off + k * 11 + 9, none⟩ = some (.slice L.pr x.dirs.length L.cr) ∧ w'.cell? ⟨b, off + k * 11 + 10, none⟩ = some (.slice L.pc x.cuts.length L.cc)) (first | exact HS8.out _ (by repeat (first | with_reducible exact Touch.refl _ _ | with_reducible refine Touch.more ?_ _ | with_reducible refine touch_drew1 ?_ | with_reducible refine Touch.set ?_ (by (try simp only [alloc_size, size_drew1, size_set]); omega) _)) | exact HS1.out _ (by repeat (first | with_reducible exact Touch.refl _ _ | with_reducible refine Touch.more ?_ _ | with_reducible refine touch_drew1 ?_ | with_reducible refine Touch.set ?_ (by (try simp only [alloc_size, size_drew1, size_set]); omega) _)) | go_keep)
          (first
            | (go_at_call 36; rw [← HGV.out, ← HCV.out]; refine (led25_any t S k F2 x L g X _ HFC.out (HTW.out.dr.below (by repeat (first | with_reducible exact Below.refl _ _ | with_reducible assumption | with_reducible refine Below.alloc ?_ (by (try simp only [alloc_size, size_drew1, size_set]); omega) _ | with_reducible refine below_drew1 ?_))) (fun i hi => Nat.lt_of_lt_of_le (HTW.out.l2 i hi).2 (Below.size (B := wr.heap.size) (by repeat (first | with_reducible exact Below.refl _ _ | with_reducible assumption | with_reducible refine Below.alloc ?_ (by (try simp only [alloc_size, size_drew1, size_set]); omega) _ | with_reducible refine below_drew1 ?_)))) HSI.out hkn w.heap.size (Nat.le_trans hszr (Below.size (B := wr.heap.size) (by repeat (first | with_reducible exact Below.refl _ _ | with_reducible assumption | with_reducible refine Below.alloc ?_ (by (try simp only [alloc_size, size_drew1, size_set]); omega) _ | with_reducible refine below_drew1 ?_)))) (HSA.out.far fun i hi => (HBR.out.trans (Below.mono (by repeat (first | with_reducible exact Below.refl _ _ | with_reducible assumption | with_reducible refine Below.alloc ?_ (by (try simp only [alloc_size, size_drew1, size_set]); omega) _ | with_reducible refine below_drew1 ?_)) hszr)).block i hi) HOK.out HGO.out (ownsRow_below HROW.out (by repeat (first | with_reducible exact Below.refl _ _ | with_reducible assumption | with_reducible refine Below.alloc ?_ (by (try simp only [alloc_size, size_drew1, size_set]); omega) _ | with_reducible refine below_drew1 ?_))) (fun i hi => (HRF.out i hi).2.1)).mono ?_; rintro e v8 ⟨u, g', F2', rfl, hs8, hd8, hsub8, ht8, hg8, hrow8, hrf8⟩; have hyt8 := HYT.out; rw [← hyt8.2.2] at hs8; rw [← hyt8.2.1] at hd8; rw [← hyt8.1] at hg8 hrow8; clear hyt8; have hz8 := ht8.size; have HZ8 := Lib.hid hz8; (try simp only [alloc_size, size_drew1] at hz8); have ht80 : Touch F2 wr v8 := Touch.trans (Touch.of_below (by repeat (first | with_reducible exact Below.refl _ _ | with_reducible assumption | with_reducible refine Below.alloc ?_ (by (try simp only [alloc_size, size_drew1, size_set]); omega) _ | with_reducible refine below_drew1 ?_))) (ht8.mono fun i _ hi => .inl hi); have HT80 := Lib.hid ht80; (try (have e1a := Blk.touch (blk_last wr.drew wr.heap.size _ _ rfl) ht8 (fun hf => absurd (HL2.out _ hf) (by omega)); have e1ac := e1a.cell; have e1af := e1a.frozen)); (try (have e1b := Blk.touch (Blk.alloc (blk_last wr.drew wr.heap.size _ _ rfl) _) ht8 (fun hf => absurd (HL2.out _ hf) (by omega)); have e1bc := e1b.cell; have e1bf := e1b.frozen; have e1c := Blk.touch (blk_last (World.alloc wr.drew _) (wr.heap.size + 1) _ _ (by simp only [alloc_size, size_drew1])) ht8 (fun hf => absurd (HL2.out _ hf) (by omega)); have e1cc := e1c.cell; have e1cf := e1c.frozen)); (try (have u1 : wr.heap.size < v8.heap.size := (by omega))); (try (have u2 : wr.heap.size + 1 < v8.heap.size := (by omega))); have HS8 : Hid (∀ V : World, Touch (fun i => wr.heap.size ≤ i) v8 V → (V.cell? ⟨gb, 0, none⟩ = some (.bool g.d) ∧ V.cell? ⟨gb, 1, none⟩ = some (.bool g.a) ∧ V.cell? ⟨gb, 2, none⟩ = some (.slice g.pa g.pn g.pc) ∧ V.cell? ⟨gb, 3, none⟩ = some (.int .i64 g.k) ∧ V.cell? ⟨gb, 4, none⟩ = some (.int .i64 g.r) ∧ V.cell? ⟨gb, 5, none⟩ = some (.bool g.laid) ∧ V.cell? ⟨gb, 6, none⟩ = some (.int .i64 g.R) ∧ V.cell? ⟨gb, 7, none⟩ = some (.int .i64 g.C) ∧ V.cell? ⟨gb, 8, none⟩ = some (.int .i64 g.I)) ∧ V.cell? ⟨b, off + k * 11, none⟩ = some (.int .i64 x.kind) ∧ V.cell? ⟨b, off + k * 11 + 1, none⟩ = some (.string x.name) ∧ V.cell? ⟨b, off + k * 11 + 2, none⟩ = some (.string x.to) ∧ V.cell? ⟨b, off + k * 11 + 3, none⟩ = some (.slice L.pd x.data.length L.cd) ∧ V.cell? ⟨b, off + k * 11 + 4, none⟩ = some (.int .i64 x.a) ∧ V.cell? ⟨b, off + k * 11 + 5, none⟩ = some (.int .i64 x.b) ∧ V.cell? ⟨b, off + k * 11 + 6, none⟩ = some (.int .i64 x.c) ∧ V.cell? ⟨b, off + k * 11 + 7, none⟩ = some (.bool x.yes) ∧ V.cell? ⟨b, off + k * 11 + 8, none⟩ = some (.slice L.pp x.plan.length L.cp) ∧ V.cell? ⟨b, off + k * 11 + 9, none⟩ = some (.slice L.pr x.dirs.length L.cr) ∧ V.cell? ⟨b, off + k * 11 + 10, none⟩ = some (.slice L.pc x.cuts.length L.cc)) := Lib.hid fun V hV => HS0.out V ((hV.block gb (Nat.lt_of_lt_of_le hgbl ht80.size) (by omega)).trans (ht80.block gb hgbl HN2.out)) ((hV.block b (Nat.lt_of_lt_of_le hbl1 ht80.size) (by omega)).trans (ht80.block b hbl1 HNB.out)); obtain ⟨dv, mv, fv, rfl, r1, r2, r3⟩ := hs8; have HR1 := Lib.hid r1; have HR2 := Lib.hid r2; have HR3 := Lib.hid r3; obtain ⟨da, dc, rfl, _⟩ := own_shape r1; obtain ⟨ma, mc, rfl, _⟩ := own_shape r2; obtain ⟨fa, fc, rfl, _⟩ := r3.shape; have HSAT := Lib.hid (SaidAt.mk' r1 r2 r3 : SaidAt _ _ (.agg #[.int .i64 sd.e, _, _, _, .int .i64 sd.n, .bool sd.yes]) sd); have HD8 := Lib.hid hd8; have HSUB := Lib.hid hsub8; have HG8 := Lib.hid hg8; have HROW8 := Lib.hid hrow8; have HRF8 := Lib.hid hrf8; unfold gcells; clear r1 r2 r3 hd8 hsub8 ht8 hg8 hrow8 hrf8 ht80))
        all_goals
          go_wp2_with fail
          go_meet
          refine ⟨_, _, _, _, _, g', F2', rfl, rfl, GoMid.of (C := _) (by (try simp only [alloc_size, size_drew1, size_set]); omega) HL2.out HRL.out HSAT.out HD8.out HSUB.out HT80.out HG8.out HROW8.out HRF8.out HZ8.out (by repeat (first | with_reducible exact Touch.refl _ _ | with_reducible refine Touch.more ?_ _ | with_reducible refine touch_drew1 ?_ | with_reducible refine Touch.set ?_ (by (try simp only [alloc_size, size_drew1, size_set]); omega) _)) ⟨(by (try simp only [alloc_size, size_drew1, size_set]); omega), (by (try simp only [alloc_size, size_drew1, size_set]); omega), (by (try simp only [alloc_size, size_drew1, size_set]); omega), (by (try simp only [alloc_size, size_drew1, size_set]); omega)⟩ ⟨?_, ?_, ?_, ?_, ?_, ?_⟩ ⟨?_, ?_, ?_, ?_, ?_, ?_, ?_, ?_, ?_⟩⟩
          all_goals (first | (go_simp; done) | (simp [go_sem, *]; done) | ((repeat (rw [World.cell?_setCell_far _ _ _ _ (by first | (simp; done) | (simp; omega))])); first | (go_simp; done) | (simp [go_sem, *]; done)))
      case rest =>
        obtain ⟨ga, gc, d, m, f, g', F2', rfl, rfl, hm⟩ := hcut
        have HM := Lib.hid hm
        have hgbc : Blk wc gb 61 (gcells g) := HGB.out.touch hm.touch HN2.out
        have HGBC := Lib.hid hgbc
        obtain ⟨z0, z1, z2, z3, z4, z5, z6, z7, z8⟩ := hm.gat
        obtain ⟨y0, y1, y2, y3, y4, y5, y6, y7, y8⟩ := gate_cells hgbc
        have yf : ∀ i, wc.frozen? ⟨gb, i, none⟩ = false := hgbc.frozen
        have hgcl := hm.lc
        have hgal := hm.la
        have hszc := hm.touch.size
        have hgne : ¬ (gb = gc) := by omega
        have hgne2 : ¬ (gc = gb) := by omega
        have hgne3 : ¬ (gb = ga) := by omega
        clear hm hgbc
        go_wp2_with fail
        refine wp_world fun wd hwd => ?_
        have HGD : Hid (Blk wd gb 61 (gcells g')) := Lib.hid (by
          rw [hwd]
          have h9 := ((((((((HGBC.out.set_ 0 (.bool g'.d)).set_ 1 (.bool g'.a)).set_ 2 (.slice g'.pa g'.pn g'.pc)).set_ 3 (.int .i64 g'.k)).set_ 4 (.int .i64 g'.r)).set_ 5 (.bool g'.laid)).set_ 6 (.int .i64 g'.R)).set_ 7 (.int .i64 g'.C)).set_ 8 (.int .i64 g'.I)
          rw [gate_set9] at h9
          exact h9)
        have HTD : Hid (Touch (· = gb) wc wd) := Lib.hid (by
          rw [hwd]
          iterate 9 (with_reducible refine Touch.set ?_ (by simp) _)
          exact Touch.refl _ _)
        have hsd := HTD.out.size
        clear hwd z0 z1 z2 z3 z4 z5 z6 z7 z8 y0 y1 y2 y3 y4 y5 y6 y7 y8 yf
        have hbd1 : wd.heap[b]? = wr.heap[b]? := (HTD.out.block b (by omega) (by omega)).trans (HM.out.touch.block b hbl1 HNB.out)
        have hgd1 : wd.heap[ga]? = wc.heap[ga]? := HTD.out.block ga hgal.2 (by omega)
        have HYN : Hid (Y.OkN (k + 1)) := Lib.hid (by rw [HYT.out.1]; exact hurt25_okN HXN.out S HFC.out)
        have HTI : Hid (T.Inv (k + 1) ∧ T.room ≤ 400) := Lib.hid (by
          have hr4 := HSR.out
          have hm := Nat.mul_le_mul (show k + 1 ≤ 2199023254001 by omega) hr4
          rw [HYT.out.2.1]; exact ⟨hurt25_inv HSI.out x (by omega), by rw [hurt25_room]; exact hr4⟩)
        have HSE : Hid (∀ V : World, V.heap[b]? = wd.heap[b]? → V.heap[ga]? = wd.heap[ga]? → (V.cell? ⟨b, off + k * 11, none⟩ = some (.int .i64 x.kind) ∧ V.cell? ⟨b, off + k * 11 + 1, none⟩ = some (.string x.name) ∧ V.cell? ⟨b, off + k * 11 + 2, none⟩ = some (.string x.to) ∧ V.cell? ⟨b, off + k * 11 + 3, none⟩ = some (.slice L.pd x.data.length L.cd) ∧ V.cell? ⟨b, off + k * 11 + 4, none⟩ = some (.int .i64 x.a) ∧ V.cell? ⟨b, off + k * 11 + 5, none⟩ = some (.int .i64 x.b) ∧ V.cell? ⟨b, off + k * 11 + 6, none⟩ = some (.int .i64 x.c) ∧ V.cell? ⟨b, off + k * 11 + 7, none⟩ = some (.bool x.yes) ∧ V.cell? ⟨b, off + k * 11 + 8, none⟩ = some (.slice L.pp x.plan.length L.cp) ∧ V.cell? ⟨b, off + k * 11 + 9, none⟩ = some (.slice L.pr x.dirs.length L.cr) ∧ V.cell? ⟨b, off + k * 11 + 10, none⟩ = some (.slice L.pc x.cuts.length L.cc)) ∧ V.cell? ⟨ga, 0, none⟩ = some (.int .i64 sd.e) ∧ V.cell? ⟨ga, 1, none⟩ = some d ∧ V.cell? ⟨ga, 2, none⟩ = some m ∧ V.cell? ⟨ga, 3, none⟩ = some f ∧ V.cell? ⟨ga, 4, none⟩ = some (.int .i64 sd.n) ∧ V.cell? ⟨ga, 5, none⟩ = some (.bool sd.yes)) := Lib.hid fun V h1 h2 => ⟨HST0.out V (h1.trans hbd1), ⟨(World.cell?_of_block (h2.trans hgd1)).trans HM.out.sc.1, (World.cell?_of_block (h2.trans hgd1)).trans HM.out.sc.2.1, (World.cell?_of_block (h2.trans hgd1)).trans HM.out.sc.2.2.1, (World.cell?_of_block (h2.trans hgd1)).trans HM.out.sc.2.2.2.1, (World.cell?_of_block (h2.trans hgd1)).trans HM.out.sc.2.2.2.2.1, (World.cell?_of_block (h2.trans hgd1)).trans HM.out.sc.2.2.2.2.2⟩⟩
        have HBWD : Hid (Below w.heap.size w wd) := Lib.hid ((HBR.out.trans (HM.out.touch.below hszr fun i hi => (HTW.out.l2 i hi).1)).trans (HTD.out.below (Nat.le_trans hszr hszc) fun i (hi : i = gb) => by rw [hi]; exact HGH.out))
        have HWDD : Hid (WD wd q p X S F1) := Lib.hid ((HTW.out.wd.keep HM.out.touch fun i h1 h2 => HTW.out.no i h1 h2).keep HTD.out fun i h1 (h2 : i = gb) => HN1.out (h2 ▸ h1))
        have HSAD : Hid (SaidAt wd wr.heap.size (.agg #[.int .i64 sd.e, d, m, f, .int .i64 sd.n, .bool sd.yes]) sd) := Lib.hid (HM.out.sat.touch HTD.out fun i (hi : i = gb) => by rw [hi]; exact hgbl)
        have HAP : Hid (0 < x.plan.length → ∀ ad, L.pp = some ad → ¬F1 ad.block) := Lib.hid fun h0 ad e hf => by
          obtain ⟨ad', e', hb', _⟩ := HSA.out.plan.2 h0
          rw [e] at e'; injection e' with e'; subst e'
          exact absurd (HTW.out.l1 _ hf).1 (by omega)
        have HL1 : Hid (∀ i, F1 i → i < wr.heap.size) := Lib.hid fun i hi => (HTW.out.l1 i hi).2
        have HNB1 : Hid (¬F1 b) := Lib.hid fun hf => by have := (HTW.out.l1 _ hf).1; omega
        have HNG1 : Hid (¬F1 ga) := Lib.hid fun hf => by have := HL1.out _ hf; omega
        have HNM : Hid (sd.names.length ≤ 2199023254000 ∧ sd.files.length ≤ 2199023254000) := Lib.hid (by rw [HYT.out.2.2]; exact hurt25_names _ _ x HSM.out)
        have hwrd : wr.heap.size ≤ wd.heap.size := by omega
        have hwd0 : w.heap.size ≤ wd.heap.size := by omega
        have hbdl : b < wd.heap.size := by omega
        have hgadl : ga < wd.heap.size := by omega
        have e1 : wd.heap[b]? = wd.heap[b]? := rfl
        have e2 : wd.heap[ga]? = wd.heap[ga]? := rfl
        clear hbd1 hgd1
        go_wp2_with fail
        go_region_held3 (fun w' => (w'.cell? ⟨b, off + k * 11, none⟩ = some (.int .i64 x.kind) ∧ w'.cell? ⟨b, off + k * 11 + 1, none⟩ = some (.string x.name) ∧ w'.cell? ⟨b, off + k * 11 + 2, none⟩ = some (.string x.to) ∧ w'.cell? ⟨b, off + k * 11 + 3, none⟩ = some (.slice L.pd x.data.length L.cd) ∧ w'.cell? ⟨b, off + k * 11 + 4, none⟩ = some (.int .i64 x.a) ∧ w'.cell? ⟨b, off + k * 11 + 5, none⟩ = some (.int .i64 x.b) ∧ w'.cell? ⟨b, off + k * 11 + 6, none⟩ = some (.int .i64 x.c) ∧ w'.cell? ⟨b, off + k * 11 + 7, none⟩ = some (.bool x.yes) ∧ w'.cell? ⟨b, off + k * 11 + 8, none⟩ = some (.slice L.pp x.plan.length L.cp) ∧ w'.cell? ⟨b, off + k * 11 + 9, none⟩ = some (.slice L.pr x.dirs.length L.cr) ∧ w'.cell? ⟨b, off + k * 11 + 10, none⟩ = some (.slice L.pc x.cuts.length L.cc)) ∧ w'.cell? ⟨ga, 0, none⟩ = some (.int .i64 sd.e) ∧ w'.cell? ⟨ga, 1, none⟩ = some d ∧ w'.cell? ⟨ga, 2, none⟩ = some m ∧ w'.cell? ⟨ga, 3, none⟩ = some f ∧ w'.cell? ⟨ga, 4, none⟩ = some (.int .i64 sd.n) ∧ w'.cell? ⟨ga, 5, none⟩ = some (.bool sd.yes)) (first | exact HSE.out _ (by first | with_reducible assumption | exact rfl) (by first | with_reducible assumption | exact rfl) | go_keep)
          (first
            | (go_at_call 37; rw [← HCV.out]; refine (hurt25_any q p X S k F1 x L wd.drew w.heap.size HFC.out (HWDD.out.below (below_drewN (Below.refl _ wd) 1)) (fun i hi => Nat.lt_of_lt_of_le (HL1.out i hi) hwrd) HOK.out HSI.out hkn hwd0 (HSA.out.far fun i hi => HBWD.out.block i hi) HAP.out).mono ?_; rintro e v2 ⟨u1, rfl, hs2, hd2, ht2⟩; have hyt2 := HYT.out; rw [← hyt2.2.2] at hs2; rw [← hyt2.1, ← hyt2.2.1] at hd2; clear hyt2; have HS2 := Lib.hid hs2; have HD2 := Lib.hid hd2; have HT2 := Lib.hid ht2; have eb2 : v2.heap[b]? = wd.heap[b]? := ht2.block b hbdl HNB1.out; have eg2 : v2.heap[ga]? = wd.heap[ga]? := ht2.block ga hgadl HNG1.out; have hz2 : wd.heap.size ≤ v2.heap.size := ht2.size; clear hs2 hd2 ht2)
            | (go_at_call 20; refine (alike_any u1 (.agg #[.int .i64 sd.e, d, m, f, .int .i64 sd.n, .bool sd.yes]) sd _ _ v2 HS2.out ((HSAD.out.below (below_drewN (Below.refl _ wd) 1)).touch HT2.out HL1.out) HNM.out.1 HNM.out.2).mono ?_; rintro e v3 ⟨rfl, hb3⟩; have HB3' := Lib.hid hb3; have hz3 := hb3.size; have eb3 : v3.heap[b]? = wd.heap[b]? := (hb3.block b (Nat.lt_of_lt_of_le hbdl hz2)).trans eb2; have eg3 : v3.heap[ga]? = wd.heap[ga]? := (hb3.block ga (Nat.lt_of_lt_of_le hgadl hz2)).trans eg2; clear hb3))
        have HBN : Hid (Below w.heap.size w v3) := Lib.hid ((HBWD.out.trans (below_drewN (Below.refl _ wd) 1 |>.mono hwd0)).trans ((HT2.out.below hwd0 fun i hi => (HTW.out.l1 i hi).1).trans (HB3'.out.mono (Nat.le_trans hwd0 HT2.out.size))))
        go_wp2
        go_roundw
        case rel =>
          have GN := GoesAt.next HTW.out HGH.out hgbl HN1.out HN2.out HRF.out HRL.out HM.out HTD.out HGD.out HD2.out HT2.out HB3'.out HYN.out HTI.out.1 HTI.out.2 hszr
          first
            | exact ⟨k + 1, by omega, by go_num, GN, HBN.out⟩
            | ((repeat apply Exists.intro); exact ⟨⟨k + 1, by omega, by go_num, GN, HBN.out⟩, rfl⟩)
            | ((repeat apply Exists.intro); exact ⟨(by omega : k + 1 ≤ nA), by go_num, GN, HBN.out⟩)
        case measure => simp [intOf]; omega
    · have hkl : k ≤ 2199023254000 := by omega
      have HSG := Lib.hid (HSI.out.good hkl)
      have HBD : Hid (Below w.heap.size w wr.drew) := Lib.hid (HBR.out.trans ((below_drewN (Below.refl _ wr) 1).mono hszr))
      have HTD := Lib.hid (HTW.out.below (below_drewN (Below.refl _ wr) 1))
      have HGV : Hid (gcells g = #[.bool g.d, .bool g.a, .slice g.pa g.pn g.pc, .int .i64 g.k, .int .i64 g.r, .bool g.laid, .int .i64 g.R, .int .i64 g.C, .int .i64 g.I]) := Lib.hid rfl
      have HSC : Hid (∀ V : World, V.heap[gb]? = wr.heap[gb]? → V.cell? ⟨gb, 0, none⟩ = some (.bool g.d) ∧ V.cell? ⟨gb, 1, none⟩ = some (.bool g.a) ∧ V.cell? ⟨gb, 2, none⟩ = some (.slice g.pa g.pn g.pc) ∧ V.cell? ⟨gb, 3, none⟩ = some (.int .i64 g.k) ∧ V.cell? ⟨gb, 4, none⟩ = some (.int .i64 g.r) ∧ V.cell? ⟨gb, 5, none⟩ = some (.bool g.laid) ∧ V.cell? ⟨gb, 6, none⟩ = some (.int .i64 g.R) ∧ V.cell? ⟨gb, 7, none⟩ = some (.int .i64 g.C) ∧ V.cell? ⟨gb, 8, none⟩ = some (.int .i64 g.I)) := Lib.hid fun V h1 => gate_cells (h1.trans HGB.out)
      have HG1 : Hid ((!X.down) = (!g.d)) := Lib.hid (by rw [HGO.out.d])
      have HG2 : Hid (X.calls = g.k) := Lib.hid HGO.out.k.symm
      have HG3 : Hid (X.lit = g.struck) := Lib.hid HGO.out.struck.symm
      have hwb : w.heap.size ≤ wr.heap.size := hszr
      have e0 : wr.heap[gb]? = wr.heap[gb]? := rfl
      go_wp2_with fail
      go_region_held3 (fun w' => w'.cell? ⟨gb, 0, none⟩ = some (.bool g.d) ∧ w'.cell? ⟨gb, 1, none⟩ = some (.bool g.a) ∧ w'.cell? ⟨gb, 2, none⟩ = some (.slice g.pa g.pn g.pc) ∧ w'.cell? ⟨gb, 3, none⟩ = some (.int .i64 g.k) ∧ w'.cell? ⟨gb, 4, none⟩ = some (.int .i64 g.r) ∧ w'.cell? ⟨gb, 5, none⟩ = some (.bool g.laid) ∧ w'.cell? ⟨gb, 6, none⟩ = some (.int .i64 g.R) ∧ w'.cell? ⟨gb, 7, none⟩ = some (.int .i64 g.C) ∧ w'.cell? ⟨gb, 8, none⟩ = some (.int .i64 g.I)) (first | exact HSC.out _ (by first | with_reducible assumption | exact rfl) | go_keep)
        (first
          | (go_at_call 38; refine (level_any p t S F1 F2 wr.drew HTD.out.wd.dr HTD.out.dr HSG.out).mono ?_; rintro e w9 ⟨rfl, hb9⟩; have HT9 := Lib.hid (HTD.out.below hb9); have HB9 := Lib.hid (HBD.out.trans (hb9.mono hwb)); have e9 : w9.heap[gb]? = wr.heap[gb]? := hb9.block gb hgbl; have hz9 : wr.heap.size ≤ w9.heap.size := hb9.size; clear hb9)
          | (go_at_call 29; refine (on_any q _ _ _ w9 HT9.out.wd.wn).mono ?_; rintro e w' ⟨rfl, rfl⟩; rw [HG1.out])
          | (go_at_call 27; refine (calls_any q _ _ _ w9 HT9.out.wd.wn).mono ?_; rintro e w' ⟨rfl, rfl⟩; rw [HG2.out])
          | (go_at_call 28; refine (wlit_any q p _ _ _ w9 HT9.out.wd).mono ?_; rintro e w' ⟨rfl, rfl⟩; rw [HG3.out])
          | (go_at_call 39; rw [← HGV.out]; refine (gstruck_any g w9).mono ?_; rintro e w10 ⟨rfl, hb10⟩; have HB10 := Lib.hid (HB9.out.trans (hb10.mono HB9.out.size)); have e10 : w10.heap[gb]? = wr.heap[gb]? := (hb10.block gb (Nat.lt_of_lt_of_le hgbl hz9)).trans e9; clear hb10))
      go_wp2
      go_ret
      exact ⟨rfl, HB10.out⟩
end Go.Proofs.Ytdmcjomcbhdcbaa

/- AtomicSwept, walked: over a place with a drive.; AtomicSwept, walked: over a place without a drive.; The power goes and comes back over a world whose two drives are not alike. (Printed by gen_Va.py.) -/
import Derived.Test.YtdmcjomcbhdcbaaGreatM40
import Derived.Test.YtdmcjomcbhdcbaaGreatM39
import Derived.Test.YtdmcjomcbhdcbaaGreatM38
import Derived.Test.YtdmcjomcbhdcbaaGreatM34
namespace Go.Proofs.YtdmcjomcbhdcbaaGreat
open Go.RowKit Go.Maps

/-- Make, behind whatever ran ahead of it. -/
theorem make_behind (w : World) (x : PPlace) (L : PlLay) (hx : PlaceIn w x L) (hok : x.ok = true) (W1 : World) (hb1 : Below w.heap.size w W1) :
    Calls Tryz.prog 9 #[.slice (some ⟨W1.heap.size, 0, none⟩) 1 1] (W1.alloc (.cells (placeCells x L).toArray 25)) fun e w' => ∃ dg dc wg wc mg mc q p mq mp Av, e = .returned (.tuple #[bothV dg dc wg wc mg mc, .bool true]) ∧ World1 w' (W1.heap.size + 1) Av dg wg mg q p mq mp x.wnd x.drv x.wnd x.drv ∧ Caps dc wc mc ∧ Below W1.heap.size W1 w' ∧ W1.heap.size + 1 ≤ w'.heap.size := by
  have hb : Below W1.heap.size W1 (W1.alloc (.cells (placeCells x L).toArray 25)) := (Below.refl _ _).alloc (Nat.le_refl _) _
  have hbw : Below w.heap.size w (W1.alloc (.cells (placeCells x L).toArray 25)) := hb1.trans (hb.mono hb1.size)
  have hpi : PlaceIn (W1.alloc (.cells (placeCells x L).toArray 25)) x L := by
    obtain ⟨⟨vals, hf⟩, h2, h3, h4, h5, h6, h7, h8, h9⟩ := hx
    exact ⟨⟨vals, hf.keep hbw⟩, h2, (h3.below hbw).more hbw.size, h4, h5, h6, h7, fun ad e h0 => Nat.lt_of_lt_of_le (h8 ad e h0) hbw.size, h9⟩
  have hbl : Blk (W1.alloc (.cells (placeCells x L).toArray 25)) W1.heap.size 25 (placeCells x L).toArray := blk_last _ _ _ _ (by simp)
  refine (make_yes _ x L hpi hok W1.heap.size 0 1 (by simp) (by omega) fun j u hu => ?_).mono ?_
  · rw [Nat.zero_add, hbl.cell j]
    simpa using hu
  · rintro e w' ⟨dg, dc, wg, wc, mg, mc, q, p, mq, mp, Av, he, h1, h2, h3⟩
    rw [show (W1.alloc (.cells (placeCells x L).toArray 25)).heap.size = W1.heap.size + 1 by simp] at h1
    exact ⟨dg, dc, wg, wc, mg, mc, q, p, mq, mp, Av, he, h1, h2, hb.trans (h3.mono (by simp)), by have := h3.size; simp at this; omega⟩
theorem FilesAt.fr {w w' : World} {base h : Nat} {v : Value} {fs : List File} {Av : Nat → Prop} (hf : FilesAt w base v fs) (ht : Touch (fr h Av) w w') (hA : ∀ k, base ≤ k → k < w.heap.size → Av k) : FilesAt w' base v fs :=
  hf.touch ht fun k h1 h2 hk => hk.2 (hA k h1 h2)
theorem World1.qcell {w : World} {h dg wg mg q p mq mp : Nat} {Av : Nat → Prop} {X Y : Wnd} {S T : Drv} (hT : World1 w h Av dg wg mg q p mq mp X S Y T) : w.cell? ⟨q, 0, none⟩ = some (.pointer (some ⟨p, 0, none⟩)) ∧ q < w.heap.size := by
  obtain ⟨F, hd⟩ := hT.wd
  exact ⟨hd.head, by obtain ⟨pv, fq, hw, _⟩ := hd.wn; exact hw.head.lt⟩

end Go.Proofs.YtdmcjomcbhdcbaaGreat
namespace Go.Proofs.YtdmcjomcbhdcbaaGreat
open Go.RowKit Go.Maps

theorem make_behind0 (w : World) (x : PPlace) (L : PlLay) (hx : PlaceIn w x L) (hok : x.ok = false) (W1 : World) (hb1 : Below w.heap.size w W1) :
    Calls Tryz.prog 9 #[.slice (some ⟨W1.heap.size, 0, none⟩) 1 1] (W1.alloc (.cells (placeCells x L).toArray 25)) fun e w' => ∃ dg dc wg wc mg mc, e = .returned (.tuple #[bothV dg dc wg wc mg mc, .bool true]) ∧ Rows0 w' dg wg mg ∧ Caps dc wc mc ∧ Below W1.heap.size W1 w' := by
  have hb : Below W1.heap.size W1 (W1.alloc (.cells (placeCells x L).toArray 25)) := (Below.refl _ _).alloc (Nat.le_refl _) _
  have hbw : Below w.heap.size w (W1.alloc (.cells (placeCells x L).toArray 25)) := hb1.trans (hb.mono hb1.size)
  have hpi : PlaceIn (W1.alloc (.cells (placeCells x L).toArray 25)) x L := by
    obtain ⟨⟨vals, hf⟩, h2, h3, h4, h5, h6, h7, h8, h9⟩ := hx
    exact ⟨⟨vals, hf.keep hbw⟩, h2, (h3.below hbw).more hbw.size, h4, h5, h6, h7, fun ad e h0 => Nat.lt_of_lt_of_le (h8 ad e h0) hbw.size, h9⟩
  have hbl : Blk (W1.alloc (.cells (placeCells x L).toArray 25)) W1.heap.size 25 (placeCells x L).toArray := blk_last _ _ _ _ (by simp)
  refine (make_no _ x L hpi hok W1.heap.size 0 1 (by simp) (by omega) fun j u hu => ?_).mono ?_
  · rw [Nat.zero_add, hbl.cell j]
    simpa using hu
  · rintro e w' ⟨dg, dc, wg, wc, mg, mc, he, h1, h2, h3, h4, h5⟩
    exact ⟨dg, dc, wg, wc, mg, mc, he, ⟨h1, h2, h3, cell_lt h1, cell_lt h2, cell_lt h3⟩, h4, hb.trans (h5.mono (by simp))⟩

end Go.Proofs.YtdmcjomcbhdcbaaGreat
namespace Go.Proofs.YtdmcjomcbhdcbaaGreat
open Go.RowKit Go.Maps

set_option maxRecDepth 100000 in
set_option maxHeartbeats 4000000 in
theorem power_off2 (w : World) (h dg dc wg wc mg mc q p mq mp : Nat) (Av : Nat → Prop) (X Y : Wnd) (S T : Drv) (hT : World1 w h Av dg wg mg q p mq mp X S Y T) (hh : h ≤ w.heap.size) (hcap : Caps dc wc mc) (x : PAct) (L : ALay) (hk : x.kind = 5) :
    Calls Tryz.prog 54 #[bothV dg dc wg wc mg mc, .int .i64 0, .agg (actCells x L)] w fun e w' => e = .returned (.tuple #[]) ∧ World1 w' h Av dg wg mg q p mq mp { X with down := true } S { Y with down := true } T ∧ Touch (fr h Av) w w' := by
  obtain ⟨kind, place, at_, n, data, plan, R, C, I⟩ := x
  obtain ⟨da, dcc, pa, pc, fa, fn, fc⟩ := L
  simp only at hk
  subst hk
  unfold bothV actCells
  simp only
  obtain ⟨hc1, hc2, hc3⟩ := hcap
  have HT := Lib.hid hT
  have hr := hT.rows
  obtain ⟨r1, r2, r3, l1, l2, l3⟩ := hr
  have h01 : (0 : Int) < ((1 : Nat) : Int) := by omega
  have HWB : Hid (∀ o1 o2, World1 ((w.alloc o1).alloc o2) h (fun k => Av k ∨ (w.heap.size ≤ k ∧ k < w.heap.size + 2)) dg wg mg q p mq mp X S Y T) := Lib.hid fun o1 o2 => by
    have := hT.boxed (w1 := (w.alloc o1).alloc o2) (((Below.refl _ w).alloc (Nat.le_refl _) _).alloc (by simp) _)
    rw [show ((w.alloc o1).alloc o2).heap.size = w.heap.size + 2 by simp] at this; exact this
  have HPW : Hid (∀ o1 o2, Calls Tryz.prog 14 #[.pointer (some ⟨q, 0, none⟩), .bool false] ((w.alloc o1).alloc o2) fun e w' => e = .returned (.tuple #[]) ∧ World1 w' h (fun k => Av k ∨ (w.heap.size ≤ k ∧ k < w.heap.size + 2)) dg wg mg q p mq mp { X with down := true } S Y T ∧ Touch (fr h fun k => Av k ∨ (w.heap.size ≤ k ∧ k < w.heap.size + 2)) ((w.alloc o1).alloc o2) w') := Lib.hid fun o1 o2 => wpower1 (HWB.out o1 o2) (by simp; omega) false
  clear hT
  go_enter Tryz.func54, Tryz.ntmps54
  go_wp2_with (first
    | (go_at_call 14; refine (HPW.out _ _).mono ?_; rintro e w2 ⟨rfl, h2, t2⟩; have HT2 := Lib.hid h2; have HTT := Lib.hid t2; have r3' := h2.rows.m; have b2 : w2.cell? ⟨w.heap.size, 2, none⟩ = some (.slice (some ⟨mg, 0, none⟩) 1 mc) := (World.cell?_of_block (fr_av t2 (k := w.heap.size) (.inr (by omega)) (by simp; omega))).trans (by go_simp); clear h2 t2)
    | (go_at_call 95; (refine (mpower1 HT2.out (by have := HTT.out.size; simp at this; omega) false).mono ?_); rintro e w3 ⟨rfl, h3, t3⟩; have HT3 := Lib.hid h3; have HTT3 := Lib.hid t3; clear h3 t3)
    | fail)
  have HE := Lib.hid (World1.end_ HT3.out (HTT.out.then_ HTT3.out) (((Below.refl _ w).alloc (Nat.le_refl _) _).alloc (by simp) _) (fun k hk => .inl hk) HT.out.avd)
  exact bodyPost_ret (v := .tuple #[]) (by simp only [results, Tryz.results54]; go_simp) rfl ⟨rfl, HE.out.1, HE.out.2⟩
set_option maxRecDepth 100000 in
set_option maxHeartbeats 4000000 in
theorem power_on2 (w : World) (h dg dc wg wc mg mc q p mq mp : Nat) (Av : Nat → Prop) (X Y : Wnd) (S T : Drv) (hT : World1 w h Av dg wg mg q p mq mp X S Y T) (hh : h ≤ w.heap.size) (hcap : Caps dc wc mc) (x : PAct) (L : ALay) (hk : x.kind = 6) {k N r : Nat} (hK : KeptM X S k N r) {k2 N2 r2 : Nat} (hK2 : KeptM Y T k2 N2 r2)
    (pr : Option Addr) (nd cr : Nat) (dirs : List Bool) (pcu : Option Addr) (nc cc : Nat) (cuts : List Int) (hf : FateLow w h Av L.fa L.fn L.fc pr nd cr dirs pcu nc cc cuts) (hncs : nc ≤ 1099511627776) :
    Calls Tryz.prog 54 #[bothV dg dc wg wc mg mc, .int .i64 0, .agg (actCells x L)] w fun e w' => e = .returned (.tuple #[]) ∧ World1 w' h Av dg wg mg q p mq mp { X with down := false } (S.crash dirs cuts) { Y with down := false } (T.crash dirs cuts) ∧ Touch (fr h Av) w w' := by
  obtain ⟨kind, place, at_, n, data, plan, R, C, I⟩ := x
  obtain ⟨da, dcc, pa, pc, fa, fn, fc⟩ := L
  simp only at hk hf
  subst hk
  unfold bothV actCells
  simp only
  obtain ⟨hc1, hc2, hc3⟩ := hcap
  have HT := Lib.hid hT
  have hr := hT.rows
  obtain ⟨r1, r2, r3, l1, l2, l3⟩ := hr
  have h01 : (0 : Int) < ((1 : Nat) : Int) := by omega
  have HF := Lib.hid hf
  have HNCS := Lib.hid hncs
  clear hncs
  obtain ⟨iB, hiB, hz0B, hz1B, hz2B⟩ := info_parts boolInfo
  obtain ⟨iI, hiI, hz0I, hz1I, hz2I⟩ := info_parts intInfo
  clear hT
  rcases hf.2.2.2.2 with ⟨rfl, rfl, rfl, rfl, rfl, rfl, rfl⟩ | ⟨g, o, rfl, hfp, hgl, hg0, hg1⟩
  · have HD0 : Hid (dirs = []) := Lib.hid (List.eq_nil_of_length_eq_zero (by have := hf.1.r.1; simpa using this))
    have HC0 : Hid (cuts = []) := Lib.hid (List.eq_nil_of_length_eq_zero (by have := hf.1.c.1; simpa using this))
    clear hf
    go_enter Tryz.func54, Tryz.ntmps54
    go_wp2
    refine wp_world fun W hW => ?_
    have hbW : Below w.heap.size w W := by rw [hW]; exact (((Below.refl _ w).alloc (Nat.le_refl _) _).alloc (by simp) _).alloc (by simp; omega) _
    have hsW : W.heap.size = w.heap.size + 3 := by rw [hW]; simp
    have hB0 : Blk W w.heap.size 36 #[.slice (some ⟨dg, 0, none⟩) 1 dc, .slice (some ⟨wg, 0, none⟩) 1 wc, .slice (some ⟨mg, 0, none⟩) 1 mc] := by rw [hW]; exact ((blk_last w _ _ _ rfl).alloc _).alloc _
    have hF0 : Blk W (w.heap.size + 2) 30 #[.slice none 0 0, .slice none 0 0] := by rw [hW]; exact blk_last _ _ _ _ (by simp)
    have hTW := HT.out.boxed hbW
    have HTW := Lib.hid hTW
    have HBW := Lib.hid hbW
    have HFW : Hid (FateIn W none 0 dirs none 0 cuts) := Lib.hid (HF.out.1.keep hbW)
    have HFA : Hid (∀ Z, Touch (fr h (fun k => Av k ∨ (w.heap.size ≤ k ∧ k < W.heap.size))) W Z → FateIn Z none 0 dirs none 0 cuts) := Lib.hid fun Z hZ => (HFW.out).touch hZ (fun ad e h0 => fr_avoid1 (by rcases HF.out.2.1 ad e h0 with h1 | h1; exact .inl h1; exact .inr (.inl h1))) (fun ad e h0 => fr_avoid1 (by rcases HF.out.2.2.1 ad e h0 with h1 | h1; exact .inl h1; exact .inr (.inl h1)))
    have HQ : Hid (∀ Z, Touch (fr h (fun k => Av k ∨ (w.heap.size ≤ k ∧ k < W.heap.size))) W Z → Z.cell? ⟨w.heap.size, 1, none⟩ = some (.slice (some ⟨wg, 0, none⟩) 1 wc) ∧ Z.cell? ⟨w.heap.size, 2, none⟩ = some (.slice (some ⟨mg, 0, none⟩) 1 mc) ∧ Z.cell? ⟨w.heap.size + 2, 0, none⟩ = some (.slice none 0 0) ∧ Z.cell? ⟨w.heap.size + 2, 1, none⟩ = some (.slice none 0 0) ∧ Z.cell? ⟨wg, 0, none⟩ = some (.pointer (some ⟨q, 0, none⟩)) ∧ Z.cell? ⟨mg, 0, none⟩ = some (.pointer (some ⟨mq, 0, none⟩))) := Lib.hid fun Z hZ => by
      have e : Z.heap[w.heap.size]? = W.heap[w.heap.size]? := fr_av hZ (.inr (by omega)) (by omega)
      have e2 : Z.heap[w.heap.size + 2]? = W.heap[w.heap.size + 2]? := fr_av hZ (.inr (by omega)) (by omega)
      have hb2 : Blk Z w.heap.size 36 _ := e.trans hB0
      have hb3 : Blk Z (w.heap.size + 2) 30 _ := e2.trans hF0
      have r := hTW.rows
      exact ⟨hb2.cell 1, hb2.cell 2, hb3.cell 0, hb3.cell 1, (World.cell?_of_block (fr_av hZ (hTW.avd _ (.inr (.inl rfl))) r.ul)).trans r.u, (World.cell?_of_block (fr_av hZ (hTW.avd _ (.inr (.inr rfl))) r.ml)).trans r.m⟩
    obtain ⟨s1, s2, s3, s4, s5, s6⟩ := HQ.out W (Touch.refl _ _)
    have s7 : W.cell? ⟨q, 0, none⟩ = some (.pointer (some ⟨p, 0, none⟩)) := by obtain ⟨F, hd⟩ := hTW.wd; exact hd.head
    have hqW : q < W.heap.size := by obtain ⟨F, hd⟩ := hTW.wd; obtain ⟨pv, fq, hw, _⟩ := hd.wn; exact hw.head.lt
    have hhW : h ≤ W.heap.size := Nat.le_trans hh hbW.size
    have HQA : Hid (∀ Z, Below W.heap.size W Z → Z.cell? ⟨w.heap.size, 1, none⟩ = some (.slice (some ⟨wg, 0, none⟩) 1 wc) ∧ Z.cell? ⟨wg, 0, none⟩ = some (.pointer (some ⟨q, 0, none⟩)) ∧ Z.cell? ⟨q, 0, none⟩ = some (.pointer (some ⟨p, 0, none⟩)) ∧ Z.cell? ⟨w.heap.size + 2, 0, none⟩ = some (.slice none 0 0) ∧ Z.cell? ⟨w.heap.size + 2, 1, none⟩ = some (.slice none 0 0)) := Lib.hid fun Z hZ => by
      obtain ⟨z1, z2, z3, z4, z5, z6⟩ := HQ.out Z (Touch.of_below hZ)
      exact ⟨z1, z5, (hZ.cell (p := ⟨q, 0, none⟩) hqW).trans s7, z3, z4⟩
    have HRB : Hid (∀ V, Below W.heap.size W V → Reads V V.heap.size 1 none 0 (dirs.map boolV)) := Lib.hid fun V hV => ((HFW.out).keep hV).r
    have HRI : Hid (∀ V, Below W.heap.size W V → Reads V V.heap.size 1 none 0 (cuts.map intV)) := Lib.hid fun V hV => ((HFW.out).keep hV).c
    have HN1 := (HFW.out).nr
    have HN2 := (HFW.out).ncl
    have HONEB : Hid (∀ u ∈ dirs.map boolV, u.oneCell' = true) := Lib.hid (by intro u hu; simp only [List.mem_map] at hu; obtain ⟨b, _, rfl⟩ := hu; rfl)
    have HONEI : Hid (∀ u ∈ cuts.map intV, u.oneCell' = true) := Lib.hid (by intro u hu; simp only [List.mem_map] at hu; obtain ⟨b, _, rfl⟩ := hu; rfl)
    have HMB : Hid (0 + 0 ≤ maxLen) := Lib.hid (by simp only [maxLen]; omega)
    have HMI : Hid (0 + 0 ≤ maxLen) := Lib.hid (by simp only [maxLen]; omega)
    have HMB2 : Hid ((0 + 0) * 1 ≤ 140737488355328) := Lib.hid (by omega)
    have HMI2 : Hid ((0 + 0) * 8 ≤ 140737488355328) := Lib.hid (by have := HNCS.out; omega)
    have HNN : Hid (0 ≤ 140737488351232 ∧ 0 ≤ 140737488351232) := Lib.hid ⟨HN1, HN2⟩
    have HCR : Hid (∀ (V : World) (a1 a2 : Option Addr) (c1 c2 : Nat), Below W.heap.size W V → V.ownsRow W.heap.size 4 1 (.slice a1 0 c1) 0 (dirs.map boolV) → V.ownsRow W.heap.size 3 1 (.slice a2 0 c2) 0 (cuts.map intV) → Calls Tryz.prog 13 #[.pointer (some ⟨p, 0, none⟩), .agg #[.slice a1 0 c1, .slice a2 0 c2]] V fun e w' => e = .returned (.int .i64 0) ∧ World1 w' h (fun k => Av k ∨ (w.heap.size ≤ k ∧ k < W.heap.size)) dg wg mg q p mq mp X (S.crash dirs cuts) Y T ∧ Touch (fr h (fun k => Av k ∨ (w.heap.size ≤ k ∧ k < W.heap.size))) W w') := Lib.hid fun V a1 a2 c1 c2 hV h1 h2 => wcrash_box HTW.out hhW hK hV a1 a2 0 0 c1 c2 dirs cuts h1 h2 HNN.out.1 HNN.out.2
    clear hW hbW hB0 hF0 hTW HN1 HN2 s2 s6
    go_region_held3 (fun w' => w'.cell? ⟨w.heap.size, 1, none⟩ = some (.slice (some ⟨wg, 0, none⟩) 1 wc) ∧ w'.cell? ⟨wg, 0, none⟩ = some (.pointer (some ⟨q, 0, none⟩)) ∧ w'.cell? ⟨q, 0, none⟩ = some (.pointer (some ⟨p, 0, none⟩)) ∧ w'.cell? ⟨w.heap.size + 2, 0, none⟩ = some (.slice none 0 0) ∧ w'.cell? ⟨w.heap.size + 2, 1, none⟩ = some (.slice none 0 0)) (first | (with_reducible exact HQC.out) | go_keep) ((first
      | (go_at_call 13; (refine (HCR.out _ none none 0 0 (below_drew1 (Below.refl _ _)) (by rw [HD0.out]; exact World.ownsRow_nil _ _ _ _) (by rw [HC0.out]; exact World.ownsRow_nil _ _ _ _)).mono ?_); rintro e w3 ⟨rfl, h3, t3⟩; have HT3 := Lib.hid h3; have HTT3 := Lib.hid t3; have HQC : Hid (w3.cell? ⟨w.heap.size, 1, none⟩ = some (.slice (some ⟨wg, 0, none⟩) 1 wc) ∧ w3.cell? ⟨wg, 0, none⟩ = some (.pointer (some ⟨q, 0, none⟩)) ∧ w3.cell? ⟨q, 0, none⟩ = some (.pointer (some ⟨p, 0, none⟩)) ∧ w3.cell? ⟨w.heap.size + 2, 0, none⟩ = some (.slice none 0 0) ∧ w3.cell? ⟨w.heap.size + 2, 1, none⟩ = some (.slice none 0 0)) := Lib.hid (by obtain ⟨z1, z2, z3, z4, z5, z6⟩ := HQ.out w3 t3; obtain ⟨F, hd⟩ := h3.wd; exact ⟨z1, z5, hd.head, z3, z4⟩); clear h3 t3)
      | fail))
    all_goals
      go_wp2
      obtain ⟨z1, z2, z3, z4, z5, z6⟩ := HQ.out w3 HTT3.out
      have HDC : Hid (∀ V, Below w3.heap.size w3 V → Calls Tryz.prog 96 #[.pointer (some ⟨mq, 0, none⟩), .agg #[.slice none 0 0, .slice none 0 0]] V fun e w' => e = .returned (.tuple #[]) ∧ World1 w' h (fun k => Av k ∨ (w.heap.size ≤ k ∧ k < W.heap.size)) dg wg mg q p mq mp X (S.crash dirs cuts) Y (T.crash dirs cuts) ∧ Touch (fr h (fun k => Av k ∨ (w.heap.size ≤ k ∧ k < W.heap.size))) W w') := Lib.hid fun V hV => by
        refine (dcrash1 (HT3.out.below hV) (Nat.le_trans hhW (Nat.le_trans HTT3.out.size hV.size)) hK2 none 0 0 dirs none 0 0 cuts (HFA.out V (HTT3.out.then_ (Touch.of_below hV)))).mono ?_
        rintro e w' ⟨he, h1, h2⟩
        exact ⟨he, h1, (HTT3.out.then_ (Touch.of_below hV)).then_ h2⟩
      go_region_with (go_at_call 96; (refine (HDC.out _ (by first | exact Below.refl _ _ | exact below_drew1 (Below.refl _ _))).mono ?_); rintro e w4 ⟨rfl, h4, t4⟩; have HT4 := Lib.hid h4; have HTT4 := Lib.hid t4; obtain ⟨k1, k2, k3, k4, k5, k6⟩ := HQ.out w4 t4; clear h4 t4)
      all_goals
        go_wp2_with (first
          | (go_at_call 14; (refine (wpower1 HT4.out (Nat.le_trans hhW HTT4.out.size) true).mono ?_); rintro e w5 ⟨rfl, h5, t5⟩; have HT5 := Lib.hid h5; have HTT5 := Lib.hid (HTT4.out.then_ t5); obtain ⟨m1, m2, m3, m4, m5, m6⟩ := HQ.out w5 HTT5.out; clear h5 t5)
          | (go_at_call 95; (refine (mpower1 HT5.out (Nat.le_trans hhW HTT5.out.size) true).mono ?_); rintro e w6 ⟨rfl, h6, t6⟩; have HT6 := Lib.hid h6; have HTT6 := Lib.hid (HTT5.out.then_ t6); clear h6 t6)
          | fail)
        have HE := Lib.hid (World1.end_ HT6.out HTT6.out HBW.out (fun k hk => .inl hk) HT.out.avd)
        go_end0
        exact ⟨rfl, HE.out.1, HE.out.2⟩
  · have hfc := hf.2.2.2.1
    have hf0 : (0 : Int) < (fn : Int) := by omega
    have hf1 : ¬ fn = 0 := by omega
    clear hf
    go_enter Tryz.func54, Tryz.ntmps54
    go_wp2
    refine wp_world fun W0 hW0 => ?_
    have hbW0 : Below w.heap.size w W0 := by rw [hW0]; exact (((Below.refl _ w).alloc (Nat.le_refl _) _).alloc (by simp) _).alloc (by simp; omega) _
    have hsW0 : W0.heap.size = w.heap.size + 3 := by rw [hW0]; simp
    have hB0' : Blk W0 w.heap.size 36 #[.slice (some ⟨dg, 0, none⟩) 1 dc, .slice (some ⟨wg, 0, none⟩) 1 wc, .slice (some ⟨mg, 0, none⟩) 1 mc] := by rw [hW0]; exact ((blk_last w _ _ _ rfl).alloc _).alloc _
    have hA0' : Blk W0 (w.heap.size + 1) 59 #[.int .i64 6, .int .i64 place, .int .i64 at_, .int .i64 n, .slice da data.length dcc, .slice pa plan.length pc, .int .i64 R, .int .i64 C, .int .i64 I, .slice (some ⟨g, o, none⟩) fn fc] := by rw [hW0]; exact (blk_last _ _ _ _ (by simp)).alloc _
    have hF0' : Blk W0 (w.heap.size + 2) 30 #[.slice none 0 0, .slice none 0 0] := by rw [hW0]; exact blk_last _ _ _ _ (by simp)
    have y1 : W0.cell? ⟨w.heap.size + 1, 9, none⟩ = some (.slice (some ⟨g, o, none⟩) fn fc) := hA0'.cell 9
    have y2 : W0.cell? ⟨g, o, none⟩ = some (.slice pr nd cr) := (hbW0.cell (p := ⟨g, o, none⟩) hgl).trans hg0
    have y3 : W0.cell? ⟨g, o + 1, none⟩ = some (.slice pcu nc cc) := (hbW0.cell (p := ⟨g, o + 1, none⟩) hgl).trans hg1
    have y4 : W0.cell? ⟨w.heap.size + 1 + 1, 0, none⟩ = some (.slice none 0 0) := hF0'.cell 0
    have y5 : W0.cell? ⟨w.heap.size + 1 + 1, 1, none⟩ = some (.slice none 0 0) := hF0'.cell 1
    have y6 : ∀ i, W0.frozen? ⟨w.heap.size + 1 + 1, i, none⟩ = false := hF0'.frozen
    have y7 : g ≠ w.heap.size + 1 + 1 := by omega
    have HBW0 := Lib.hid hbW0
    have HSW0 := Lib.hid hsW0
    have HB0 := Lib.hid hB0'
    have HF0 := Lib.hid hF0'
    clear hW0 hbW0 hsW0 hB0' hA0' hF0' hg0 hg1
    go_region
    go_wp2
    refine wp_world fun W hW => ?_
    have hbW : Below w.heap.size w W := by rw [hW]; exact below_drew1 ((HBW0.out.setCell (by simp; omega) _).setCell (by simp; omega) _)
    have hsW : W.heap.size = w.heap.size + 3 := by rw [hW]; show (World.setCell _ _ _).heap.size = _; rw [size_set', size_set']; exact HSW0.out
    have hB0 : Blk W w.heap.size 36 #[.slice (some ⟨dg, 0, none⟩) 1 dc, .slice (some ⟨wg, 0, none⟩) 1 wc, .slice (some ⟨mg, 0, none⟩) 1 mc] := by rw [hW]; exact (HB0.out.far (by first | (show w.heap.size ≠ w.heap.size + 1 + 1; omega) | (show w.heap.size + 1 + 1 ≠ w.heap.size; omega)) _).far (by first | (show w.heap.size ≠ w.heap.size + 1 + 1; omega) | (show w.heap.size + 1 + 1 ≠ w.heap.size; omega)) _
    have hF0 : Blk W (w.heap.size + 2) 30 #[.slice pr nd cr, .slice pcu nc cc] := by rw [hW]; exact (HF0.out.set_ 0 (.slice pr nd cr)).set_ 1 (.slice pcu nc cc)
    clear y1 y2 y3 y4 y5 y6 y7
    have hTW := HT.out.boxed hbW
    have HTW := Lib.hid hTW
    have HBW := Lib.hid hbW
    have HFW : Hid (FateIn W pr nd dirs pcu nc cuts) := Lib.hid (HF.out.1.keep hbW)
    have HFA : Hid (∀ Z, Touch (fr h (fun k => Av k ∨ (w.heap.size ≤ k ∧ k < W.heap.size))) W Z → FateIn Z pr nd dirs pcu nc cuts) := Lib.hid fun Z hZ => (HFW.out).touch hZ (fun ad e h0 => fr_avoid1 (by rcases HF.out.2.1 ad e h0 with h1 | h1; exact .inl h1; exact .inr (.inl h1))) (fun ad e h0 => fr_avoid1 (by rcases HF.out.2.2.1 ad e h0 with h1 | h1; exact .inl h1; exact .inr (.inl h1)))
    have HQ : Hid (∀ Z, Touch (fr h (fun k => Av k ∨ (w.heap.size ≤ k ∧ k < W.heap.size))) W Z → Z.cell? ⟨w.heap.size, 1, none⟩ = some (.slice (some ⟨wg, 0, none⟩) 1 wc) ∧ Z.cell? ⟨w.heap.size, 2, none⟩ = some (.slice (some ⟨mg, 0, none⟩) 1 mc) ∧ Z.cell? ⟨w.heap.size + 2, 0, none⟩ = some (.slice pr nd cr) ∧ Z.cell? ⟨w.heap.size + 2, 1, none⟩ = some (.slice pcu nc cc) ∧ Z.cell? ⟨wg, 0, none⟩ = some (.pointer (some ⟨q, 0, none⟩)) ∧ Z.cell? ⟨mg, 0, none⟩ = some (.pointer (some ⟨mq, 0, none⟩))) := Lib.hid fun Z hZ => by
      have e : Z.heap[w.heap.size]? = W.heap[w.heap.size]? := fr_av hZ (.inr (by omega)) (by omega)
      have e2 : Z.heap[w.heap.size + 2]? = W.heap[w.heap.size + 2]? := fr_av hZ (.inr (by omega)) (by omega)
      have hb2 : Blk Z w.heap.size 36 _ := e.trans hB0
      have hb3 : Blk Z (w.heap.size + 2) 30 _ := e2.trans hF0
      have r := hTW.rows
      exact ⟨hb2.cell 1, hb2.cell 2, hb3.cell 0, hb3.cell 1, (World.cell?_of_block (fr_av hZ (hTW.avd _ (.inr (.inl rfl))) r.ul)).trans r.u, (World.cell?_of_block (fr_av hZ (hTW.avd _ (.inr (.inr rfl))) r.ml)).trans r.m⟩
    obtain ⟨s1, s2, s3, s4, s5, s6⟩ := HQ.out W (Touch.refl _ _)
    have s7 : W.cell? ⟨q, 0, none⟩ = some (.pointer (some ⟨p, 0, none⟩)) := by obtain ⟨F, hd⟩ := hTW.wd; exact hd.head
    have hqW : q < W.heap.size := by obtain ⟨F, hd⟩ := hTW.wd; obtain ⟨pv, fq, hw, _⟩ := hd.wn; exact hw.head.lt
    have hhW : h ≤ W.heap.size := Nat.le_trans hh hbW.size
    have HQA : Hid (∀ Z, Below W.heap.size W Z → Z.cell? ⟨w.heap.size, 1, none⟩ = some (.slice (some ⟨wg, 0, none⟩) 1 wc) ∧ Z.cell? ⟨wg, 0, none⟩ = some (.pointer (some ⟨q, 0, none⟩)) ∧ Z.cell? ⟨q, 0, none⟩ = some (.pointer (some ⟨p, 0, none⟩)) ∧ Z.cell? ⟨w.heap.size + 2, 0, none⟩ = some (.slice pr nd cr) ∧ Z.cell? ⟨w.heap.size + 2, 1, none⟩ = some (.slice pcu nc cc)) := Lib.hid fun Z hZ => by
      obtain ⟨z1, z2, z3, z4, z5, z6⟩ := HQ.out Z (Touch.of_below hZ)
      exact ⟨z1, z5, (hZ.cell (p := ⟨q, 0, none⟩) hqW).trans s7, z3, z4⟩
    have HRB : Hid (∀ V, Below W.heap.size W V → Reads V V.heap.size 1 pr nd (dirs.map boolV)) := Lib.hid fun V hV => ((HFW.out).keep hV).r
    have HRI : Hid (∀ V, Below W.heap.size W V → Reads V V.heap.size 1 pcu nc (cuts.map intV)) := Lib.hid fun V hV => ((HFW.out).keep hV).c
    have HN1 := (HFW.out).nr
    have HN2 := (HFW.out).ncl
    have HONEB : Hid (∀ u ∈ dirs.map boolV, u.oneCell' = true) := Lib.hid (by intro u hu; simp only [List.mem_map] at hu; obtain ⟨b, _, rfl⟩ := hu; rfl)
    have HONEI : Hid (∀ u ∈ cuts.map intV, u.oneCell' = true) := Lib.hid (by intro u hu; simp only [List.mem_map] at hu; obtain ⟨b, _, rfl⟩ := hu; rfl)
    have HMB : Hid (0 + nd ≤ maxLen) := Lib.hid (by simp only [maxLen]; omega)
    have HMI : Hid (0 + nc ≤ maxLen) := Lib.hid (by simp only [maxLen]; omega)
    have HMB2 : Hid ((0 + nd) * 1 ≤ 140737488355328) := Lib.hid (by omega)
    have HMI2 : Hid ((0 + nc) * 8 ≤ 140737488355328) := Lib.hid (by have := HNCS.out; omega)
    have HNN : Hid (nd ≤ 140737488351232 ∧ nc ≤ 140737488351232) := Lib.hid ⟨HN1, HN2⟩
    have HCR : Hid (∀ (V : World) (a1 a2 : Option Addr) (c1 c2 : Nat), Below W.heap.size W V → V.ownsRow W.heap.size 4 1 (.slice a1 nd c1) nd (dirs.map boolV) → V.ownsRow W.heap.size 3 1 (.slice a2 nc c2) nc (cuts.map intV) → Calls Tryz.prog 13 #[.pointer (some ⟨p, 0, none⟩), .agg #[.slice a1 nd c1, .slice a2 nc c2]] V fun e w' => e = .returned (.int .i64 0) ∧ World1 w' h (fun k => Av k ∨ (w.heap.size ≤ k ∧ k < W.heap.size)) dg wg mg q p mq mp X (S.crash dirs cuts) Y T ∧ Touch (fr h (fun k => Av k ∨ (w.heap.size ≤ k ∧ k < W.heap.size))) W w') := Lib.hid fun V a1 a2 c1 c2 hV h1 h2 => wcrash_box HTW.out hhW hK hV a1 a2 nd nc c1 c2 dirs cuts h1 h2 HNN.out.1 HNN.out.2
    clear hW hbW hB0 hF0 hTW HN1 HN2 s2 s6
    go_region_held3 (fun w' => w'.cell? ⟨w.heap.size, 1, none⟩ = some (.slice (some ⟨wg, 0, none⟩) 1 wc) ∧ w'.cell? ⟨wg, 0, none⟩ = some (.pointer (some ⟨q, 0, none⟩)) ∧ w'.cell? ⟨q, 0, none⟩ = some (.pointer (some ⟨p, 0, none⟩)) ∧ w'.cell? ⟨w.heap.size + 2, 0, none⟩ = some (.slice pr nd cr) ∧ w'.cell? ⟨w.heap.size + 2, 1, none⟩ = some (.slice pcu nc cc)) (first | (with_reducible exact (HQA.out _ HBB.out)) | (with_reducible exact (HQA.out _ HBI.out)) | (with_reducible exact HQC.out) | go_keep) ((first
      | (refine step_append_any _ (by rfl) (.const (.slice none 0 0)) (.tmp 50) 27 (by rfl) W.heap.size 4 iB _ 1 1 Tryz.underlying27 hiB hz0B hz1B hz2B rfl (by omega) (.slice none 0 0) 0 [] (by rfl) (World.ownsRow_nil _ _ _ _) _ pr nd cr (dirs.map boolV) (by rfl) (HRB.out _ (by first | exact HBI.out | exact below_drew1 HBI.out | exact below_drew1 (Below.refl _ _) | exact Below.refl _ _)) HONEB.out HMB.out HMB2.out (by first | exact (by have := HBI.out.size; omega) | simp) ?_; intro v1 wb hown1 hg1 hat1; obtain ⟨a1, c1, rfl, _⟩ := own_shape hown1; rw [Nat.zero_add, List.nil_append] at hown1; go_must (have HOB := Lib.hid hown1; have hbb : Below W.heap.size W wb := (by first | exact HBI.out.grown hg1 (by have := HBI.out.size; omega) (fun q hq => by simp [Value.ownBlock] at hq) | exact (below_drew1 (Below.refl _ _)).grown hg1 (by simp) (fun q hq => by simp [Value.ownBlock] at hq)); have HBB := Lib.hid hbb; have HGB := Lib.hid hg1; clear hown1 hg1 hat1 hbb))
      | (refine step_append_any _ (by rfl) (.const (.slice none 0 0)) (.tmp 53) 28 (by rfl) W.heap.size 3 iI _ 1 8 Tryz.underlying28 hiI hz0I hz1I hz2I rfl (by omega) (.slice none 0 0) 0 [] (by rfl) (World.ownsRow_nil _ _ _ _) _ pcu nc cc (cuts.map intV) (by rfl) (HRI.out _ (by first | exact HBB.out | exact below_drew1 HBB.out | exact below_drew1 (Below.refl _ _) | exact Below.refl _ _)) HONEI.out HMI.out HMI2.out (by first | exact (by have := HBB.out.size; omega) | simp) ?_; intro v2 wi hown2 hg2 hat2; obtain ⟨a2, c2, rfl, _⟩ := own_shape hown2; rw [Nat.zero_add, List.nil_append] at hown2; go_must (have HOI := Lib.hid hown2; have hbi : Below W.heap.size W wi := (by first | exact HBB.out.grown hg2 (by have := HBB.out.size; omega) (fun q hq => by simp [Value.ownBlock] at hq) | exact (below_drew1 (Below.refl _ _)).grown hg2 (by simp) (fun q hq => by simp [Value.ownBlock] at hq)); have HBI := Lib.hid hbi; have HGI := Lib.hid hg2; clear hown2 hg2 hat2 hbi))
      | (go_at_call 13; (refine (HCR.out _ a1 a2 c1 c2 (by first | exact HBI.out | exact HBB.out) (by first | exact HOB.out | exact row_grown HOB.out (World.ownsRow_nil _ 0 3 1) HGI.out (by decide) | exact row_grown (row_drew HOB.out) (World.ownsRow_nil _ 0 3 1) HGI.out (by decide)) (by first | exact HOI.out | exact row_grown HOI.out (World.ownsRow_nil _ 0 4 1) HGB.out (by decide) | exact row_grown (row_drew HOI.out) (World.ownsRow_nil _ 0 4 1) HGB.out (by decide))).mono ?_); rintro e w3 ⟨rfl, h3, t3⟩; have HT3 := Lib.hid h3; have HTT3 := Lib.hid t3; have HQC : Hid (w3.cell? ⟨w.heap.size, 1, none⟩ = some (.slice (some ⟨wg, 0, none⟩) 1 wc) ∧ w3.cell? ⟨wg, 0, none⟩ = some (.pointer (some ⟨q, 0, none⟩)) ∧ w3.cell? ⟨q, 0, none⟩ = some (.pointer (some ⟨p, 0, none⟩)) ∧ w3.cell? ⟨w.heap.size + 2, 0, none⟩ = some (.slice pr nd cr) ∧ w3.cell? ⟨w.heap.size + 2, 1, none⟩ = some (.slice pcu nc cc)) := Lib.hid (by obtain ⟨z1, z2, z3, z4, z5, z6⟩ := HQ.out w3 t3; obtain ⟨F, hd⟩ := h3.wd; exact ⟨z1, z5, hd.head, z3, z4⟩); clear h3 t3)
      | fail))
    all_goals
      go_wp2
      obtain ⟨z1, z2, z3, z4, z5, z6⟩ := HQ.out w3 HTT3.out
      have HDC : Hid (∀ V, Below w3.heap.size w3 V → Calls Tryz.prog 96 #[.pointer (some ⟨mq, 0, none⟩), .agg #[.slice pr nd cr, .slice pcu nc cc]] V fun e w' => e = .returned (.tuple #[]) ∧ World1 w' h (fun k => Av k ∨ (w.heap.size ≤ k ∧ k < W.heap.size)) dg wg mg q p mq mp X (S.crash dirs cuts) Y (T.crash dirs cuts) ∧ Touch (fr h (fun k => Av k ∨ (w.heap.size ≤ k ∧ k < W.heap.size))) W w') := Lib.hid fun V hV => by
        refine (dcrash1 (HT3.out.below hV) (Nat.le_trans hhW (Nat.le_trans HTT3.out.size hV.size)) hK2 pr nd cr dirs pcu nc cc cuts (HFA.out V (HTT3.out.then_ (Touch.of_below hV)))).mono ?_
        rintro e w' ⟨he, h1, h2⟩
        exact ⟨he, h1, (HTT3.out.then_ (Touch.of_below hV)).then_ h2⟩
      go_region_with (go_at_call 96; (refine (HDC.out _ (by first | exact Below.refl _ _ | exact below_drew1 (Below.refl _ _))).mono ?_); rintro e w4 ⟨rfl, h4, t4⟩; have HT4 := Lib.hid h4; have HTT4 := Lib.hid t4; obtain ⟨k1, k2, k3, k4, k5, k6⟩ := HQ.out w4 t4; clear h4 t4)
      all_goals
        go_wp2_with (first
          | (go_at_call 14; (refine (wpower1 HT4.out (Nat.le_trans hhW HTT4.out.size) true).mono ?_); rintro e w5 ⟨rfl, h5, t5⟩; have HT5 := Lib.hid h5; have HTT5 := Lib.hid (HTT4.out.then_ t5); obtain ⟨m1, m2, m3, m4, m5, m6⟩ := HQ.out w5 HTT5.out; clear h5 t5)
          | (go_at_call 95; (refine (mpower1 HT5.out (Nat.le_trans hhW HTT5.out.size) true).mono ?_); rintro e w6 ⟨rfl, h6, t6⟩; have HT6 := Lib.hid h6; have HTT6 := Lib.hid (HTT5.out.then_ t6); clear h6 t6)
          | fail)
        have HE := Lib.hid (World1.end_ HT6.out HTT6.out HBW.out (fun k hk => .inl hk) HT.out.avd)
        go_end0
        exact ⟨rfl, HE.out.1, HE.out.2⟩
end Go.Proofs.YtdmcjomcbhdcbaaGreat

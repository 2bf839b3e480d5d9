/- Acts and steps where there is no drive. (Printed by gen_Sl.py.); A round's end where there is no drive.; A step where there is no drive. (Printed by gen_Sn.py.) -/
import Derived.Test.YtdmcjomcbhdcbaaGreatM37
namespace Go.Proofs.YtdmcjomcbhdcbaaGreat
open Go.RowKit Go.Maps

/-- The rows of a world of one place without a drive. -/
structure Rows0 (w : World) (dg wg mg : Nat) : Prop where
  d : w.cell? ⟨dg, 0, none⟩ = some Value.nilIface
  u : w.cell? ⟨wg, 0, none⟩ = some (.pointer none)
  m : w.cell? ⟨mg, 0, none⟩ = some (.pointer none)
  dl : dg < w.heap.size
  ul : wg < w.heap.size
  ml : mg < w.heap.size
theorem Rows0.below {w V : World} {dg wg mg : Nat} (h : Rows0 w dg wg mg) (hb : Below w.heap.size w V) : Rows0 V dg wg mg where
  d := (hb.cell (p := ⟨dg, 0, none⟩) h.dl).trans h.d
  u := (hb.cell (p := ⟨wg, 0, none⟩) h.ul).trans h.u
  m := (hb.cell (p := ⟨mg, 0, none⟩) h.ml).trans h.m
  dl := Nat.lt_of_lt_of_le h.dl hb.size
  ul := Nat.lt_of_lt_of_le h.ul hb.size
  ml := Nat.lt_of_lt_of_le h.ml hb.size

set_option maxRecDepth 100000 in
theorem power_nil (w : World) (dg dc wg wc mg mc : Nat) (hR : Rows0 w dg wg mg) (hcap : Caps dc wc mc) (x : PAct) (L : ALay) :
    Calls Tryz.prog 54 #[bothV dg dc wg wc mg mc, .int .i64 0, .agg (actCells x L)] w fun e w' => e = .returned (.tuple #[]) ∧ Below w.heap.size w w' := by
  obtain ⟨kind, place, at_, n, data, plan, R, C, I⟩ := x
  obtain ⟨da, dcc, pa, pc, fa, fn, fc⟩ := L
  unfold bothV actCells
  simp only
  obtain ⟨r1, r2, r3, l1, l2, l3⟩ := hR
  obtain ⟨hc1, hc2, hc3⟩ := hcap
  have h01 : (0 : Int) < ((1 : Nat) : Int) := by omega
  go_enter Tryz.func54, Tryz.ntmps54
  go_wp2
  exact bodyPost_ret (v := .tuple #[]) (by simp only [results, Tryz.results54]; go_simp) rfl ⟨rfl, ((Below.refl _ w).alloc (Nat.le_refl _) _).alloc (by simp) _⟩

set_option maxRecDepth 100000 in
set_option maxHeartbeats 4000000 in
theorem do_nil (w : World) (dg dc wg wc mg mc : Nat) (hR : Rows0 w dg wg mg) (hcap : Caps dc wc mc) (x : PAct) (L : ALay) :
    Calls Tryz.prog 23 #[bothV dg dc wg wc mg mc, .agg (actCells x L)] w fun e w' => e = .returned (.tuple #[]) ∧ Below w.heap.size w w' := by
  have HPW : Hid (∀ V, Below w.heap.size w V → Calls Tryz.prog 54 #[bothV dg dc wg wc mg mc, .int .i64 0, .agg (actCells x L)] V fun e w' => e = .returned (.tuple #[]) ∧ Below V.heap.size V w') := Lib.hid fun V hV => power_nil V dg dc wg wc mg mc (hR.below hV) hcap x L
  have HR := Lib.hid hR
  obtain ⟨kind, place, at_, n, data, plan, R, C, I⟩ := x
  obtain ⟨da, dcc, pa, pc, fa, fn, fc⟩ := L
  unfold bothV actCells at HPW
  unfold bothV actCells
  simp only at HPW ⊢
  obtain ⟨r1, r2, r3, l1, l2, l3⟩ := hR
  obtain ⟨hc1, hc2, hc3⟩ := hcap
  have h01 : (0 : Int) < ((1 : Nat) : Int) := by omega
  have HPK := Lib.hid pick_one
  have HB : Hid (∀ o1 o2, Below w.heap.size w ((w.alloc o1).alloc o2)) := Lib.hid fun o1 o2 => ((Below.refl _ w).alloc (Nat.le_refl _) _).alloc (by simp) _
  by_cases k56 : kind = 5 ∨ kind = 6
  · have hbl : ∀ o1 o2 Z, Z = (w.alloc o1).alloc o2 → True := fun _ _ _ _ => trivial
    clear hbl
    rcases k56 with rfl | rfl
    · go_enter Tryz.func23, Tryz.ntmps23
      go_wp2
      refine wp_world fun W hW => ?_
      have hbW : Below w.heap.size w W := by rw [hW]; exact HB.out _ _
      have hsW : W.heap.size = w.heap.size + 2 := by rw [hW]; simp
      have hB0 : Blk W w.heap.size 36 #[.slice (some ⟨dg, 0, none⟩) 1 dc, .slice (some ⟨wg, 0, none⟩) 1 wc, .slice (some ⟨mg, 0, none⟩) 1 mc] := by rw [hW]; exact (blk_last w _ _ _ rfl).alloc _
      have hA0 : Blk W (w.heap.size + 1) 59 #[.int .i64 5, .int .i64 place, .int .i64 at_, .int .i64 n, .slice da data.length dcc, .slice pa plan.length pc, .int .i64 R, .int .i64 C, .int .i64 I, .slice fa fn fc] := by rw [hW]; exact blk_last _ _ _ _ (by simp)
      have HBW := Lib.hid hbW
      have HQ : Hid (∀ Z, Below W.heap.size W Z → Blk Z w.heap.size 36 #[.slice (some ⟨dg, 0, none⟩) 1 dc, .slice (some ⟨wg, 0, none⟩) 1 wc, .slice (some ⟨mg, 0, none⟩) 1 mc] ∧ Blk Z (w.heap.size + 1) 59 #[.int .i64 5, .int .i64 place, .int .i64 at_, .int .i64 n, .slice da data.length dcc, .slice pa plan.length pc, .int .i64 R, .int .i64 C, .int .i64 I, .slice fa fn fc]) := Lib.hid fun Z hZ => ⟨hB0.below hZ (by omega), hA0.below hZ (by omega)⟩
      have HSW := Lib.hid hsW
      clear hW hbW hsW hB0 hA0
      go_loopw [4] (fun s4 wr => (s4 = .int .i64 0 ∧ wr = W) ∨ (s4 = .int .i64 1 ∧ Below W.heap.size W wr)) (fun s4 _ => 1 - (intOf s4).toNat)
      case atStart => exact .inl ⟨rfl, rfl⟩
      case round =>
        rcases hrel with ⟨rfl, rfl⟩ | ⟨rfl, hb⟩
        · obtain ⟨qb, qa⟩ := HQ.out wr (Below.refl _ _)
          have b0 := qb.cell 0
          have b1 := qb.cell 1
          have b2 := qb.cell 2
          have a0 := qa.cell 0
          have a1 := qa.cell 1
          have a2 := qa.cell 2
          have a3 := qa.cell 3
          have a4 := qa.cell 4
          have a5 := qa.cell 5
          have a6 := qa.cell 6
          have a7 := qa.cell 7
          have a8 := qa.cell 8
          have a9 := qa.cell 9
          simp at b0 b1 b2 a0 a1 a2 a3 a4 a5 a6 a7 a8 a9
          clear qb qa
          go_wp2_with (go_at_call 54; refine (HPW.out wr HBW.out).mono ?_; rintro e w3 ⟨rfl, h3⟩; have HT3 := Lib.hid h3; clear h3)
          exact ⟨.inr ⟨rfl, HT3.out⟩, by simp [intOf]⟩
        · obtain ⟨qb, qa⟩ := HQ.out wr hb
          have b1 := qb.cell 1
          simp at b1
          have HE := Lib.hid (HBW.out.trans (hb.mono (by have := HSW.out; omega)))
          clear hb qb qa
          go_wp2
          exact bodyPost_ret (v := .tuple #[]) (by simp only [results, Tryz.results23]; go_simp) rfl ⟨rfl, HE.out⟩
    · go_enter Tryz.func23, Tryz.ntmps23
      go_wp2
      refine wp_world fun W hW => ?_
      have hbW : Below w.heap.size w W := by rw [hW]; exact HB.out _ _
      have hsW : W.heap.size = w.heap.size + 2 := by rw [hW]; simp
      have hB0 : Blk W w.heap.size 36 #[.slice (some ⟨dg, 0, none⟩) 1 dc, .slice (some ⟨wg, 0, none⟩) 1 wc, .slice (some ⟨mg, 0, none⟩) 1 mc] := by rw [hW]; exact (blk_last w _ _ _ rfl).alloc _
      have hA0 : Blk W (w.heap.size + 1) 59 #[.int .i64 6, .int .i64 place, .int .i64 at_, .int .i64 n, .slice da data.length dcc, .slice pa plan.length pc, .int .i64 R, .int .i64 C, .int .i64 I, .slice fa fn fc] := by rw [hW]; exact blk_last _ _ _ _ (by simp)
      have HBW := Lib.hid hbW
      have HQ : Hid (∀ Z, Below W.heap.size W Z → Blk Z w.heap.size 36 #[.slice (some ⟨dg, 0, none⟩) 1 dc, .slice (some ⟨wg, 0, none⟩) 1 wc, .slice (some ⟨mg, 0, none⟩) 1 mc] ∧ Blk Z (w.heap.size + 1) 59 #[.int .i64 6, .int .i64 place, .int .i64 at_, .int .i64 n, .slice da data.length dcc, .slice pa plan.length pc, .int .i64 R, .int .i64 C, .int .i64 I, .slice fa fn fc]) := Lib.hid fun Z hZ => ⟨hB0.below hZ (by omega), hA0.below hZ (by omega)⟩
      have HSW := Lib.hid hsW
      clear hW hbW hsW hB0 hA0
      go_loopw [4] (fun s4 wr => (s4 = .int .i64 0 ∧ wr = W) ∨ (s4 = .int .i64 1 ∧ Below W.heap.size W wr)) (fun s4 _ => 1 - (intOf s4).toNat)
      case atStart => exact .inl ⟨rfl, rfl⟩
      case round =>
        rcases hrel with ⟨rfl, rfl⟩ | ⟨rfl, hb⟩
        · obtain ⟨qb, qa⟩ := HQ.out wr (Below.refl _ _)
          have b0 := qb.cell 0
          have b1 := qb.cell 1
          have b2 := qb.cell 2
          have a0 := qa.cell 0
          have a1 := qa.cell 1
          have a2 := qa.cell 2
          have a3 := qa.cell 3
          have a4 := qa.cell 4
          have a5 := qa.cell 5
          have a6 := qa.cell 6
          have a7 := qa.cell 7
          have a8 := qa.cell 8
          have a9 := qa.cell 9
          simp at b0 b1 b2 a0 a1 a2 a3 a4 a5 a6 a7 a8 a9
          clear qb qa
          go_wp2_with (go_at_call 54; refine (HPW.out wr HBW.out).mono ?_; rintro e w3 ⟨rfl, h3⟩; have HT3 := Lib.hid h3; clear h3)
          exact ⟨.inr ⟨rfl, HT3.out⟩, by simp [intOf]⟩
        · obtain ⟨qb, qa⟩ := HQ.out wr hb
          have b1 := qb.cell 1
          simp at b1
          have HE := Lib.hid (HBW.out.trans (hb.mono (by have := HSW.out; omega)))
          clear hb qb qa
          go_wp2
          exact bodyPost_ret (v := .tuple #[]) (by simp only [results, Tryz.results23]; go_simp) rfl ⟨rfl, HE.out⟩
  · have e5 : (kind == 5) = false := by simp; intro h; exact k56 (.inl h)
    have e6 : (kind == 6) = false := by simp; intro h; exact k56 (.inr h)
    clear k56
    go_enter Tryz.func23, Tryz.ntmps23
    go_wp2_with (go_at_call 55; refine (HPK.out _ _).mono ?_; rintro e w' ⟨rfl, rfl⟩)
    exact bodyPost_ret (v := .tuple #[]) (by simp only [results, Tryz.results23]; go_simp) rfl ⟨rfl, HB.out _ _⟩
end Go.Proofs.YtdmcjomcbhdcbaaGreat
namespace Go.Proofs.YtdmcjomcbhdcbaaGreat
open Go.RowKit Go.Maps

set_option maxRecDepth 100000 in
set_option maxHeartbeats 4000000 in
theorem refrest_nil (w : World) (mg mc : Nat) (c0 : w.cell? ⟨mg, 0, none⟩ = some (.pointer none)) (hc : 1 ≤ mc) :
    Calls Tryz.prog 53 #[.slice (some ⟨mg, 0, none⟩) 1 mc] w fun e w' => e = .returned (.tuple #[]) ∧ w = w' := by
  have HS := Lib.hid dstruck_nil
  have HR := Lib.hid drest_nil
  have h01 : (0 : Int) < ((1 : Nat) : Int) := by omega
  have HC0 := Lib.hid c0
  clear c0
  go_enter Tryz.func53, Tryz.ntmps53
  go_wp2
  go_loopw [2, 3] (fun s2 s3 wr => s2 = .bool false ∧ (s3 = .int .i64 0 ∨ s3 = .int .i64 1) ∧ w = wr) (fun _ s3 _ => 1 - (intOf s3).toNat)
  case atStart => exact ⟨rfl, .inl rfl, rfl⟩
  case round =>
    obtain ⟨rfl, hs, hw⟩ := hrel
    subst hw
    have c0 := HC0.out
    rcases hs with rfl | rfl
    · go_wp2_with (go_at_call 52; refine (HS.out _).mono ?_; rintro e w1 ⟨rfl, rfl⟩)
      exact ⟨⟨rfl, .inr rfl, trivial⟩, by simp [intOf]⟩
    · go_wp2
      go_loopw [4] (fun s4 wr2 => (s4 = .int .i64 0 ∨ s4 = .int .i64 1) ∧ w = wr2) (fun s4 _ => 1 - (intOf s4).toNat)
      case atStart => exact ⟨.inl rfl, rfl⟩
      case round =>
        obtain ⟨hs, hw⟩ := hrel
        subst hw
        rcases hs with rfl | rfl
        · go_wp2_with (go_at_call 94; refine (HR.out false _).mono ?_; rintro e w1 ⟨rfl, rfl⟩)
          exact ⟨⟨.inr rfl, trivial⟩, by simp [intOf]⟩
        · go_wp2
          go_end0
          exact ⟨rfl, rfl⟩

set_option maxRecDepth 100000 in
set_option maxHeartbeats 4000000 in
theorem brest_nil (w : World) (dg dc wg wc mg mc : Nat) (hR : Rows0 w dg wg mg) (hcap : Caps dc wc mc) :
    Calls Tryz.prog 22 #[bothV dg dc wg wc mg mc] w fun e w' => e = .returned (.tuple #[]) ∧ Below w.heap.size w w' := by
  obtain ⟨hc1, hc2, hc3⟩ := hcap
  have h01 : (0 : Int) < ((1 : Nat) : Int) := by omega
  have HS := Lib.hid dstruck_nil
  have HR := Lib.hid hR
  clear hR
  unfold bothV
  go_enter Tryz.func22, Tryz.ntmps22
  go_wp2
  refine wp_world fun W hW => ?_
  have hbW : Below w.heap.size w W := by rw [hW]; exact (Below.refl _ w).alloc (Nat.le_refl _) _
  have hbl : Blk W w.heap.size 36 #[.slice (some ⟨dg, 0, none⟩) 1 dc, .slice (some ⟨wg, 0, none⟩) 1 wc, .slice (some ⟨mg, 0, none⟩) 1 mc] := by rw [hW]; exact blk_last _ _ _ _ rfl
  have c1 := hbl.cell 1
  have c2 := hbl.cell 2
  simp at c1 c2
  have c3 := (HR.out.below hbW).u
  have c4 := (HR.out.below hbW).m
  have HBW := Lib.hid hbW
  have HC2 := Lib.hid c2
  have HC4 := Lib.hid c4
  clear hW hbW hbl c1 c2 c3 c4
  go_loopw [2, 3] (fun s2 s3 wr => s2 = .bool false ∧ (s3 = .int .i64 0 ∨ s3 = .int .i64 1) ∧ W = wr) (fun _ s3 _ => 1 - (intOf s3).toNat)
  case atStart => exact ⟨rfl, .inl rfl, rfl⟩
  case round =>
    obtain ⟨rfl, hs, hw⟩ := hrel
    subst hw
    have c2 := HC2.out
    have c4 := HC4.out
    rcases hs with rfl | rfl
    · go_wp2_with (go_at_call 52; refine (HS.out _).mono ?_; rintro e w1 ⟨rfl, rfl⟩)
      exact ⟨⟨rfl, .inr rfl, trivial⟩, by simp [intOf]⟩
    · go_wp2
      go_loopw [4] (fun s4 wr2 => (s4 = .int .i64 0 ∨ s4 = .int .i64 1) ∧ W = wr2) (fun s4 _ => 1 - (intOf s4).toNat)
      case atStart => exact ⟨.inl rfl, rfl⟩
      case round =>
        obtain ⟨hs, hw⟩ := hrel
        subst hw
        rcases hs with rfl | rfl
        · go_wp2
          exact ⟨⟨.inr rfl, trivial⟩, by simp [intOf]⟩
        · go_wp2_with (go_at_call 53; refine (refrest_nil W mg mc HC4.out hc3).mono ?_; rintro e w3 ⟨rfl, rfl⟩)
          go_end0
          exact ⟨rfl, HBW.out⟩
end Go.Proofs.YtdmcjomcbhdcbaaGreat
namespace Go.Proofs.YtdmcjomcbhdcbaaGreat
open Go.RowKit Go.Maps

set_option maxRecDepth 100000 in
set_option maxHeartbeats 4000000 in
theorem same_write_nil (w : World) (dg dc wg wc mg mc : Nat) (hR : Rows0 w dg wg mg) (hcap : Caps dc wc mc) (x : PStp) (L : SLay) (hk : x.kind = 1) (hnm : x.name.length ≤ maxLen) (hrd : Reads w w.heap.size 1 L.da x.data.length (x.data.map B8)) (hdb : x.data.length ≤ 1099511627776) :
    Calls Tryz.prog 25 #[bothV dg dc wg wc mg mc, .agg (stepCells x L)] w fun e w' => e = .returned (.bool true) ∧ Below w.heap.size w w' := by
  obtain ⟨kind, nm, data, ak, ap, aa, an, adata, aplan, aR, aC, aI⟩ := x
  obtain ⟨da, dcc, ada, adc, apa, apc, afa, afn, afc⟩ := L
  simp only at hk hnm hrd hdb
  unfold bothV stepCells
  simp only
  have HR := Lib.hid hR
  obtain ⟨r1, r2, r3, l1, l2, l3⟩ := hR
  obtain ⟨hc1, hc2, hc3⟩ := hcap
  have h01 : (0 : Int) < ((1 : Nat) : Int) := by omega
  obtain ⟨dl, hdle⟩ : ∃ dl, dl = data.length := ⟨_, rfl⟩
  obtain ⟨adl, hadl⟩ : ∃ adl, adl = adata.length := ⟨_, rfl⟩
  obtain ⟨apl, hapl⟩ : ∃ apl, apl = aplan.length := ⟨_, rfl⟩
  rw [← hdle] at hrd hdb
  rw [← hdle, ← hadl, ← hapl]
  have HDL := Lib.hid hdle
  have HADL := Lib.hid hadl
  have HAPL := Lib.hid hapl
  have HRD := Lib.hid hrd
  have HB2 : Hid (∀ o1 o2, Below w.heap.size w ((w.alloc o1).alloc o2)) := Lib.hid fun o1 o2 => ((Below.refl _ w).alloc (Nat.le_refl _) _).alloc (by simp) _
  have HB3 : Hid (∀ o1 o2 o3, Below w.heap.size w (((w.alloc o1).alloc o2).alloc o3)) := Lib.hid fun o1 o2 o3 => (((Below.refl _ w).alloc (Nat.le_refl _) _).alloc (by simp) _).alloc (by simp; omega) _
  subst hk
  clear hrd hdle hadl hapl
  go_enter Tryz.func25, Tryz.ntmps25
  go_wp2_with (first
    | (go_at_call 18; go_loud (refine (lwrite_nil _ nm da dl dcc data HDL.out hdb ((HRD.out.below (HB2.out _ _)).more (HB2.out _ _).size)).mono ?_); rintro e w2 ⟨rfl, hb2⟩; have hb2' : Below w.heap.size w w2 := (HB2.out _ _).trans (hb2.mono (by simp; omega)); have HBB := Lib.hid hb2'; have qs : w2.cell? ⟨w.heap.size + 1, 1, none⟩ = some (.string ⟨nm.toArray⟩) ∧ w2.cell? ⟨w.heap.size + 1, 2, none⟩ = some (.slice da dl dcc) := (by have hx := (blk_last (w.alloc _) (w.heap.size + 1) 61 _ (by simp)).below hb2 (by simp); exact ⟨hx.cell 1, hx.cell 2⟩); obtain ⟨qs1, qs2⟩ := qs; clear hb2 hb2')
    | (go_at_call 69; go_loud (refine (mwrite_nil nm da dl dcc w2).mono ?_); rintro e w3 ⟨rfl, rfl⟩)
    | fail)
  go_ret
  exact ⟨rfl, HBB.out⟩

set_option maxRecDepth 100000 in
set_option maxHeartbeats 4000000 in
theorem same_remove_nil (w : World) (dg dc wg wc mg mc : Nat) (hR : Rows0 w dg wg mg) (hcap : Caps dc wc mc) (x : PStp) (L : SLay) (hk : x.kind = 2) (hnm : x.name.length ≤ maxLen) (hrd : Reads w w.heap.size 1 L.da x.data.length (x.data.map B8)) (hdb : x.data.length ≤ 1099511627776) :
    Calls Tryz.prog 25 #[bothV dg dc wg wc mg mc, .agg (stepCells x L)] w fun e w' => e = .returned (.bool true) ∧ Below w.heap.size w w' := by
  obtain ⟨kind, nm, data, ak, ap, aa, an, adata, aplan, aR, aC, aI⟩ := x
  obtain ⟨da, dcc, ada, adc, apa, apc, afa, afn, afc⟩ := L
  simp only at hk hnm hrd hdb
  unfold bothV stepCells
  simp only
  have HR := Lib.hid hR
  obtain ⟨r1, r2, r3, l1, l2, l3⟩ := hR
  obtain ⟨hc1, hc2, hc3⟩ := hcap
  have h01 : (0 : Int) < ((1 : Nat) : Int) := by omega
  obtain ⟨dl, hdle⟩ : ∃ dl, dl = data.length := ⟨_, rfl⟩
  obtain ⟨adl, hadl⟩ : ∃ adl, adl = adata.length := ⟨_, rfl⟩
  obtain ⟨apl, hapl⟩ : ∃ apl, apl = aplan.length := ⟨_, rfl⟩
  rw [← hdle] at hrd hdb
  rw [← hdle, ← hadl, ← hapl]
  have HDL := Lib.hid hdle
  have HADL := Lib.hid hadl
  have HAPL := Lib.hid hapl
  have HRD := Lib.hid hrd
  have HB2 : Hid (∀ o1 o2, Below w.heap.size w ((w.alloc o1).alloc o2)) := Lib.hid fun o1 o2 => ((Below.refl _ w).alloc (Nat.le_refl _) _).alloc (by simp) _
  have HB3 : Hid (∀ o1 o2 o3, Below w.heap.size w (((w.alloc o1).alloc o2).alloc o3)) := Lib.hid fun o1 o2 o3 => (((Below.refl _ w).alloc (Nat.le_refl _) _).alloc (by simp) _).alloc (by simp; omega) _
  subst hk
  clear hrd hdle hadl hapl
  go_enter Tryz.func25, Tryz.ntmps25
  go_wp2
  refine wp_world fun W hW => ?_
  have hbW : Below w.heap.size w W := by rw [hW]; exact HB2.out _ _
  have HBW := Lib.hid hbW
  have hx : Blk W (w.heap.size + 1) 61 #[.int .i64 2, .string ⟨nm.toArray⟩, .slice da dl dcc, .int .i64 ak, .int .i64 ap, .int .i64 aa, .int .i64 an, .slice ada adl adc, .slice apa apl apc, .int .i64 aR, .int .i64 aC, .int .i64 aI, .slice afa afn afc] := by rw [hW]; exact blk_last (w.alloc _) (w.heap.size + 1) 61 _ (by simp)
  have hlW : w.heap.size + 1 < W.heap.size := by rw [hW]; simp
  have HS : Hid (∀ Z, Below W.heap.size W Z → Z.cell? ⟨w.heap.size + 1, 1, none⟩ = some (.string ⟨nm.toArray⟩)) := Lib.hid fun Z hZ => (hx.below hZ hlW).cell 1
  have s1 := HS.out W (Below.refl _ _)
  clear hW hbW hx
  go_region_held3 (fun V => V.cell? ⟨w.heap.size + 1, 1, none⟩ = some (.string ⟨nm.toArray⟩)) (first | (with_reducible exact HS2.out) | go_keep) ((first
    | (go_at_call 16; go_loud (refine (remove_nil _ _).mono ?_); rintro e w2 ⟨rfl, hb2⟩; have hb2' : Below W.heap.size W w2 := (by first | exact hb2 | exact (below_drew1 (Below.refl _ W)).trans hb2); have HB2' := Lib.hid hb2'; have HS2 := Lib.hid (HS.out w2 hb2'); clear hb2 hb2')
    | (go_at_call 70; go_loud (refine (mremo_nil nm _).mono ?_); rintro e w3 ⟨rfl, rfl⟩)
    | fail))
  all_goals
    go_wp2
    go_ret
    exact ⟨rfl, HBW.out.trans (HB2'.out.mono HBW.out.size)⟩

set_option maxRecDepth 100000 in
set_option maxHeartbeats 4000000 in
theorem same_sweep_nil (w : World) (dg dc wg wc mg mc : Nat) (hR : Rows0 w dg wg mg) (hcap : Caps dc wc mc) (x : PStp) (L : SLay) (hk : x.kind = 3) (hnm : x.name.length ≤ maxLen) (hrd : Reads w w.heap.size 1 L.da x.data.length (x.data.map B8)) (hdb : x.data.length ≤ 1099511627776) :
    Calls Tryz.prog 25 #[bothV dg dc wg wc mg mc, .agg (stepCells x L)] w fun e w' => e = .returned (.bool true) ∧ Below w.heap.size w w' := by
  obtain ⟨kind, nm, data, ak, ap, aa, an, adata, aplan, aR, aC, aI⟩ := x
  obtain ⟨da, dcc, ada, adc, apa, apc, afa, afn, afc⟩ := L
  simp only at hk hnm hrd hdb
  unfold bothV stepCells
  simp only
  have HR := Lib.hid hR
  obtain ⟨r1, r2, r3, l1, l2, l3⟩ := hR
  obtain ⟨hc1, hc2, hc3⟩ := hcap
  have h01 : (0 : Int) < ((1 : Nat) : Int) := by omega
  obtain ⟨dl, hdle⟩ : ∃ dl, dl = data.length := ⟨_, rfl⟩
  obtain ⟨adl, hadl⟩ : ∃ adl, adl = adata.length := ⟨_, rfl⟩
  obtain ⟨apl, hapl⟩ : ∃ apl, apl = aplan.length := ⟨_, rfl⟩
  rw [← hdle] at hrd hdb
  rw [← hdle, ← hadl, ← hapl]
  have HDL := Lib.hid hdle
  have HADL := Lib.hid hadl
  have HAPL := Lib.hid hapl
  have HRD := Lib.hid hrd
  have HB2 : Hid (∀ o1 o2, Below w.heap.size w ((w.alloc o1).alloc o2)) := Lib.hid fun o1 o2 => ((Below.refl _ w).alloc (Nat.le_refl _) _).alloc (by simp) _
  have HB3 : Hid (∀ o1 o2 o3, Below w.heap.size w (((w.alloc o1).alloc o2).alloc o3)) := Lib.hid fun o1 o2 o3 => (((Below.refl _ w).alloc (Nat.le_refl _) _).alloc (by simp) _).alloc (by simp; omega) _
  subst hk
  clear hrd hdle hadl hapl
  go_enter Tryz.func25, Tryz.ntmps25
  go_wp2_with (first
    | (go_at_call 21; go_loud (refine (sweep_nil _).mono ?_); rintro e w3 ⟨rfl, rfl⟩)
    | (go_at_call 71; go_loud (refine (msweep_nil _).mono ?_); rintro e w3 ⟨rfl, rfl⟩)
    | fail)
  go_ret
  exact ⟨rfl, HB2.out _ _⟩

set_option maxRecDepth 100000 in
set_option maxHeartbeats 4000000 in
theorem same_read_nil (w : World) (dg dc wg wc mg mc : Nat) (hR : Rows0 w dg wg mg) (hcap : Caps dc wc mc) (x : PStp) (L : SLay) (hk : x.kind = 4) (hnm : x.name.length ≤ maxLen) (hrd : Reads w w.heap.size 1 L.da x.data.length (x.data.map B8)) (hdb : x.data.length ≤ 1099511627776) :
    Calls Tryz.prog 25 #[bothV dg dc wg wc mg mc, .agg (stepCells x L)] w fun e w' => e = .returned (.bool true) ∧ Below w.heap.size w w' := by
  obtain ⟨kind, nm, data, ak, ap, aa, an, adata, aplan, aR, aC, aI⟩ := x
  obtain ⟨da, dcc, ada, adc, apa, apc, afa, afn, afc⟩ := L
  simp only at hk hnm hrd hdb
  unfold bothV stepCells
  simp only
  have HR := Lib.hid hR
  obtain ⟨r1, r2, r3, l1, l2, l3⟩ := hR
  obtain ⟨hc1, hc2, hc3⟩ := hcap
  have h01 : (0 : Int) < ((1 : Nat) : Int) := by omega
  obtain ⟨dl, hdle⟩ : ∃ dl, dl = data.length := ⟨_, rfl⟩
  obtain ⟨adl, hadl⟩ : ∃ adl, adl = adata.length := ⟨_, rfl⟩
  obtain ⟨apl, hapl⟩ : ∃ apl, apl = aplan.length := ⟨_, rfl⟩
  rw [← hdle] at hrd hdb
  rw [← hdle, ← hadl, ← hapl]
  have HDL := Lib.hid hdle
  have HADL := Lib.hid hadl
  have HAPL := Lib.hid hapl
  have HRD := Lib.hid hrd
  have HB2 : Hid (∀ o1 o2, Below w.heap.size w ((w.alloc o1).alloc o2)) := Lib.hid fun o1 o2 => ((Below.refl _ w).alloc (Nat.le_refl _) _).alloc (by simp) _
  have HB3 : Hid (∀ o1 o2 o3, Below w.heap.size w (((w.alloc o1).alloc o2).alloc o3)) := Lib.hid fun o1 o2 o3 => (((Below.refl _ w).alloc (Nat.le_refl _) _).alloc (by simp) _).alloc (by simp; omega) _
  subst hk
  clear hrd hdle hadl hapl
  go_enter Tryz.func25, Tryz.ntmps25
  go_wp2
  go_ret
  exact ⟨rfl, HB2.out _ _⟩

set_option maxRecDepth 100000 in
set_option maxHeartbeats 4000000 in
theorem same_list_nil (w : World) (dg dc wg wc mg mc : Nat) (hR : Rows0 w dg wg mg) (hcap : Caps dc wc mc) (x : PStp) (L : SLay) (hk : x.kind = 5) (hnm : x.name.length ≤ maxLen) (hrd : Reads w w.heap.size 1 L.da x.data.length (x.data.map B8)) (hdb : x.data.length ≤ 1099511627776) :
    Calls Tryz.prog 25 #[bothV dg dc wg wc mg mc, .agg (stepCells x L)] w fun e w' => e = .returned (.bool true) ∧ Below w.heap.size w w' := by
  obtain ⟨kind, nm, data, ak, ap, aa, an, adata, aplan, aR, aC, aI⟩ := x
  obtain ⟨da, dcc, ada, adc, apa, apc, afa, afn, afc⟩ := L
  simp only at hk hnm hrd hdb
  unfold bothV stepCells
  simp only
  have HR := Lib.hid hR
  obtain ⟨r1, r2, r3, l1, l2, l3⟩ := hR
  obtain ⟨hc1, hc2, hc3⟩ := hcap
  have h01 : (0 : Int) < ((1 : Nat) : Int) := by omega
  obtain ⟨dl, hdle⟩ : ∃ dl, dl = data.length := ⟨_, rfl⟩
  obtain ⟨adl, hadl⟩ : ∃ adl, adl = adata.length := ⟨_, rfl⟩
  obtain ⟨apl, hapl⟩ : ∃ apl, apl = aplan.length := ⟨_, rfl⟩
  rw [← hdle] at hrd hdb
  rw [← hdle, ← hadl, ← hapl]
  have HDL := Lib.hid hdle
  have HADL := Lib.hid hadl
  have HAPL := Lib.hid hapl
  have HRD := Lib.hid hrd
  have HB2 : Hid (∀ o1 o2, Below w.heap.size w ((w.alloc o1).alloc o2)) := Lib.hid fun o1 o2 => ((Below.refl _ w).alloc (Nat.le_refl _) _).alloc (by simp) _
  have HB3 : Hid (∀ o1 o2 o3, Below w.heap.size w (((w.alloc o1).alloc o2).alloc o3)) := Lib.hid fun o1 o2 o3 => (((Below.refl _ w).alloc (Nat.le_refl _) _).alloc (by simp) _).alloc (by simp; omega) _
  subst hk
  clear hrd hdle hadl hapl
  go_enter Tryz.func25, Tryz.ntmps25
  go_wp2
  go_ret
  exact ⟨rfl, HB2.out _ _⟩

set_option maxRecDepth 100000 in
set_option maxHeartbeats 4000000 in
theorem same_rest_nil (w : World) (dg dc wg wc mg mc : Nat) (hR : Rows0 w dg wg mg) (hcap : Caps dc wc mc) (x : PStp) (L : SLay) (hk : x.kind = 6) (hnm : x.name.length ≤ maxLen) (hrd : Reads w w.heap.size 1 L.da x.data.length (x.data.map B8)) (hdb : x.data.length ≤ 1099511627776) :
    Calls Tryz.prog 25 #[bothV dg dc wg wc mg mc, .agg (stepCells x L)] w fun e w' => e = .returned (.bool true) ∧ Below w.heap.size w w' := by
  obtain ⟨kind, nm, data, ak, ap, aa, an, adata, aplan, aR, aC, aI⟩ := x
  obtain ⟨da, dcc, ada, adc, apa, apc, afa, afn, afc⟩ := L
  simp only at hk hnm hrd hdb
  unfold bothV stepCells
  simp only
  have HR := Lib.hid hR
  obtain ⟨r1, r2, r3, l1, l2, l3⟩ := hR
  obtain ⟨hc1, hc2, hc3⟩ := hcap
  have h01 : (0 : Int) < ((1 : Nat) : Int) := by omega
  obtain ⟨dl, hdle⟩ : ∃ dl, dl = data.length := ⟨_, rfl⟩
  obtain ⟨adl, hadl⟩ : ∃ adl, adl = adata.length := ⟨_, rfl⟩
  obtain ⟨apl, hapl⟩ : ∃ apl, apl = aplan.length := ⟨_, rfl⟩
  rw [← hdle] at hrd hdb
  rw [← hdle, ← hadl, ← hapl]
  have HDL := Lib.hid hdle
  have HADL := Lib.hid hadl
  have HAPL := Lib.hid hapl
  have HRD := Lib.hid hrd
  have HB2 : Hid (∀ o1 o2, Below w.heap.size w ((w.alloc o1).alloc o2)) := Lib.hid fun o1 o2 => ((Below.refl _ w).alloc (Nat.le_refl _) _).alloc (by simp) _
  have HB3 : Hid (∀ o1 o2 o3, Below w.heap.size w (((w.alloc o1).alloc o2).alloc o3)) := Lib.hid fun o1 o2 o3 => (((Below.refl _ w).alloc (Nat.le_refl _) _).alloc (by simp) _).alloc (by simp; omega) _
  subst hk
  clear hrd hdle hadl hapl
  go_enter Tryz.func25, Tryz.ntmps25
  go_wp2_with (first
    | (go_at_call 22; go_loud (refine (brest_nil _ dg dc wg wc mg mc (HR.out.below (HB2.out _ _)) ⟨hc1, hc2, hc3⟩).mono ?_); rintro e w3 ⟨rfl, h3⟩; have HBB : Hid (Below w.heap.size w w3) := Lib.hid ((HB2.out _ _).trans (h3.mono (by simp; omega))); clear h3)
    | fail)
  go_ret
  exact ⟨rfl, HBB.out⟩

set_option maxRecDepth 100000 in
set_option maxHeartbeats 4000000 in
theorem same_act_nil (w : World) (dg dc wg wc mg mc : Nat) (hR : Rows0 w dg wg mg) (hcap : Caps dc wc mc) (x : PStp) (L : SLay) (hk : x.kind ≠ 1 ∧ x.kind ≠ 2 ∧ x.kind ≠ 3 ∧ x.kind ≠ 4 ∧ x.kind ≠ 5 ∧ x.kind ≠ 6) (hnm : x.name.length ≤ maxLen) (hrd : Reads w w.heap.size 1 L.da x.data.length (x.data.map B8)) (hdb : x.data.length ≤ 1099511627776) :
    Calls Tryz.prog 25 #[bothV dg dc wg wc mg mc, .agg (stepCells x L)] w fun e w' => e = .returned (.bool true) ∧ Below w.heap.size w w' := by
  obtain ⟨kind, nm, data, ak, ap, aa, an, adata, aplan, aR, aC, aI⟩ := x
  obtain ⟨da, dcc, ada, adc, apa, apc, afa, afn, afc⟩ := L
  simp only at hk hnm hrd hdb
  unfold bothV stepCells
  simp only
  have HR := Lib.hid hR
  obtain ⟨r1, r2, r3, l1, l2, l3⟩ := hR
  obtain ⟨hc1, hc2, hc3⟩ := hcap
  have h01 : (0 : Int) < ((1 : Nat) : Int) := by omega
  obtain ⟨dl, hdle⟩ : ∃ dl, dl = data.length := ⟨_, rfl⟩
  obtain ⟨adl, hadl⟩ : ∃ adl, adl = adata.length := ⟨_, rfl⟩
  obtain ⟨apl, hapl⟩ : ∃ apl, apl = aplan.length := ⟨_, rfl⟩
  rw [← hdle] at hrd hdb
  rw [← hdle, ← hadl, ← hapl]
  have HDL := Lib.hid hdle
  have HADL := Lib.hid hadl
  have HAPL := Lib.hid hapl
  have HRD := Lib.hid hrd
  have HB2 : Hid (∀ o1 o2, Below w.heap.size w ((w.alloc o1).alloc o2)) := Lib.hid fun o1 o2 => ((Below.refl _ w).alloc (Nat.le_refl _) _).alloc (by simp) _
  have HB3 : Hid (∀ o1 o2 o3, Below w.heap.size w (((w.alloc o1).alloc o2).alloc o3)) := Lib.hid fun o1 o2 o3 => (((Below.refl _ w).alloc (Nat.le_refl _) _).alloc (by simp) _).alloc (by simp; omega) _
  obtain ⟨k1, k2, k3, k4, k5, k6⟩ := hk
  have e1 : (kind == 1) = false := by simpa using k1
  have e2 : (kind == 2) = false := by simpa using k2
  have e3 : (kind == 3) = false := by simpa using k3
  have e4 : (kind == 4) = false := by simpa using k4
  have e5 : (kind == 5) = false := by simpa using k5
  have e6 : (kind == 6) = false := by simpa using k6
  clear k1 k2 k3 k4 k5 k6
  have HDO : Hid (∀ o1 o2 o3, Calls Tryz.prog 23 #[.agg #[.slice (some ⟨dg, 0, none⟩) 1 dc, .slice (some ⟨wg, 0, none⟩) 1 wc, .slice (some ⟨mg, 0, none⟩) 1 mc], .agg #[.int .i64 ak, .int .i64 0, .int .i64 aa, .int .i64 an, .slice ada adl adc, .slice apa apl apc, .int .i64 aR, .int .i64 aC, .int .i64 aI, .slice afa afn afc]] (((w.alloc o1).alloc o2).alloc o3) fun e w' => e = .returned (.tuple #[]) ∧ Below w.heap.size w w') := Lib.hid fun o1 o2 o3 => by
    have j := do_nil (((w.alloc o1).alloc o2).alloc o3) dg dc wg wc mg mc (HR.out.below (HB3.out _ _ _)) ⟨hc1, hc2, hc3⟩ ⟨ak, 0, aa, an, adata, aplan, aR, aC, aI⟩ ⟨ada, adc, apa, apc, afa, afn, afc⟩
    unfold bothV actCells at j
    simp only at j
    rw [← hadl, ← hapl] at j
    refine j.mono ?_
    rintro e w' ⟨he, h1⟩
    exact ⟨he, (HB3.out _ _ _).trans (h1.mono (by simp; omega))⟩
  clear hrd hdle hadl hapl
  go_enter Tryz.func25, Tryz.ntmps25
  go_wp2_with (first
    | (go_at_call 23; go_loud (refine (HDO.out _ _ _).mono ?_); rintro e w3 ⟨rfl, h3⟩; have HBB := Lib.hid h3; clear h3)
    | fail)
  go_ret
  exact ⟨rfl, HBB.out⟩

theorem same_nil (w : World) (dg dc wg wc mg mc : Nat) (hR : Rows0 w dg wg mg) (hcap : Caps dc wc mc) (x : PStp) (L : SLay) (hnm : x.name.length ≤ maxLen) (hrd : Reads w w.heap.size 1 L.da x.data.length (x.data.map B8)) (hdb : x.data.length ≤ 1099511627776) :
    Calls Tryz.prog 25 #[bothV dg dc wg wc mg mc, .agg (stepCells x L)] w fun e w' => e = .returned (.bool true) ∧ Below w.heap.size w w' := by
  by_cases k1 : x.kind = 1
  · exact same_write_nil w dg dc wg wc mg mc hR hcap x L k1 hnm hrd hdb
  by_cases k2 : x.kind = 2
  · exact same_remove_nil w dg dc wg wc mg mc hR hcap x L k2 hnm hrd hdb
  by_cases k3 : x.kind = 3
  · exact same_sweep_nil w dg dc wg wc mg mc hR hcap x L k3 hnm hrd hdb
  by_cases k4 : x.kind = 4
  · exact same_read_nil w dg dc wg wc mg mc hR hcap x L k4 hnm hrd hdb
  by_cases k5 : x.kind = 5
  · exact same_list_nil w dg dc wg wc mg mc hR hcap x L k5 hnm hrd hdb
  by_cases k6 : x.kind = 6
  · exact same_rest_nil w dg dc wg wc mg mc hR hcap x L k6 hnm hrd hdb
  · exact same_act_nil w dg dc wg wc mg mc hR hcap x L ⟨k1, k2, k3, k4, k5, k6⟩ hnm hrd hdb
end Go.Proofs.YtdmcjomcbhdcbaaGreat

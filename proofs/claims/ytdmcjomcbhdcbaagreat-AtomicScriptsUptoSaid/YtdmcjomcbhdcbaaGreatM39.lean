/- Both.Same over no drive; a list of steps, as it is handed in.; AtomicScripts, walked: over a place with a drive.; AtomicScripts, walked: over a place without a drive. -/
import Derived.Test.YtdmcjomcbhdcbaaGreatM38
namespace Go.Proofs.YtdmcjomcbhdcbaaGreat
open Go.RowKit Go.Maps

set_option maxRecDepth 100000 in
set_option maxHeartbeats 4000000 in
theorem bsame_nil (w : World) (dg dc wg wc mg mc : Nat) (hR : Rows0 w dg wg mg) (hcap : Caps dc wc mc) :
    Calls Tryz.prog 30 #[bothV dg dc wg wc mg mc] w fun e w' => e = .returned (.bool true) ∧ Below w.heap.size w w' := by
  obtain ⟨hc1, hc2, hc3⟩ := hcap
  have h01 : (0 : Int) < ((1 : Nat) : Int) := by omega
  have HR := Lib.hid hR
  clear hR
  unfold bothV
  go_enter Tryz.func30, Tryz.ntmps30
  go_wp2
  refine wp_world fun W hW => ?_
  have hbW : Below w.heap.size w W := by rw [hW]; exact (Below.refl _ w).alloc (Nat.le_refl _) _
  have hbl : Blk W w.heap.size 36 #[.slice (some ⟨dg, 0, none⟩) 1 dc, .slice (some ⟨wg, 0, none⟩) 1 wc, .slice (some ⟨mg, 0, none⟩) 1 mc] := by rw [hW]; exact blk_last _ _ _ _ rfl
  have c1 := hbl.cell 1
  have c2 := hbl.cell 2
  simp at c1 c2
  have c3 := (HR.out.below hbW).u
  have c4 := (HR.out.below hbW).m
  have HBW := Lib.hid hbW
  have HC := Lib.hid (And.intro c1 (And.intro c2 (And.intro c3 c4)))
  clear hW hbW hbl c1 c2 c3 c4
  go_loopw [3] (fun s3 wr => (s3 = .int .i64 0 ∨ s3 = .int .i64 1) ∧ W = wr) (fun s3 _ => 1 - (intOf s3).toNat)
  case atStart => exact ⟨.inl rfl, rfl⟩
  case round =>
    obtain ⟨hs, hw⟩ := hrel
    subst hw
    obtain ⟨c1, c2, c3, c4⟩ := HC.out
    rcases hs with rfl | rfl
    · go_wp2
      exact ⟨⟨.inr rfl, trivial⟩, by simp [intOf]⟩
    · go_wp2
      go_ret
      exact ⟨rfl, HBW.out⟩

/-- Steps, as they are handed in: below h. -/
structure StepsIn (w : World) (h : Nat) (A : Option Addr) (xs : List (PStp × SLay)) : Prop where
  at_ : ∀ j xl, xs[j]? = some xl → ∃ g o, A = some ⟨g, o, none⟩ ∧ g < h ∧ ∀ i u, (stepCells xl.1 xl.2)[i]? = some u → w.cell? ⟨g, o + j * 13 + i, none⟩ = some u
  step : ∀ xl ∈ xs, StepIn w h (fun _ => False) xl.1 xl.2
  act : ∀ xl ∈ xs, ActIn w h (fun _ => False) { xl.1.act with place := 0 } xl.2.al
  fa : ∀ xl ∈ xs, ∀ ad, xl.2.al.fa = some ad → 0 < xl.2.al.fn → ad.block < h
theorem FateLow.touch {w V : World} {h h' : Nat} {Av : Nat → Prop} {fa : Option Addr} {fn fc : Nat} {pr : Option Addr} {nd cr : Nat} {dirs : List Bool} {pc : Option Addr} {nc cc : Nat} {cuts : List Int} (hf : FateLow w h (fun _ => False) fa fn fc pr nd cr dirs pc nc cc cuts) (hfl : ∀ ad, fa = some ad → 0 < fn → ad.block < h) (hb : Below h w V) (hh : h ≤ h') (hw : h ≤ w.heap.size) : FateLow V h' Av fa fn fc pr nd cr dirs pc nc cc cuts := by
  obtain ⟨h1, h2, h3, h4, h5⟩ := hf
  have hl : ∀ {A : Option Addr} {n : Nat}, (∀ ad, A = some ad → 0 < n → ad.block < h ∨ False) → ∀ ad, A = some ad → 0 < n → ad.block < h := fun hA ad e h0 => (hA ad e h0).resolve_right id
  have ht : Touch (fun k => h ≤ k) w V := ⟨hb.os, hb.tape, hb.output, hb.size, fun k _ hn => hb.block k (by omega)⟩
  refine ⟨h1.touch ht (fun ad e h0 => by have := hl h2 ad e h0; omega) (fun ad e h0 => by have := hl h3 ad e h0; omega), fun ad e h0 => .inl (Nat.lt_of_lt_of_le (hl h2 ad e h0) hh), fun ad e h0 => .inl (Nat.lt_of_lt_of_le (hl h3 ad e h0) hh), h4, ?_⟩
  rcases h5 with h5 | ⟨g, o, e1, e2, e3, e4, e5⟩
  · exact .inl h5
  · have hg : g < h := hfl _ e1 e2
    exact .inr ⟨g, o, e1, e2, Nat.lt_of_lt_of_le e3 hb.size, (World.cell?_of_block (hb.block g hg)).trans e4, (World.cell?_of_block (hb.block g hg)).trans e5⟩
theorem far_touch {w V : World} {h : Nat} (hb : Below h w V) : Touch (fun k => h ≤ k) w V := ⟨hb.os, hb.tape, hb.output, hb.size, fun k _ hn => hb.block k (by omega)⟩
theorem low_of {h n : Nat} {A : Option Addr} (hA : ∀ ad, A = some ad → 0 < n → ad.block < h ∨ False) : ∀ ad, A = some ad → 0 < n → ad.block < h := fun ad e h0 => (hA ad e h0).resolve_right id
theorem StepIn.far {w V : World} {h h' : Nat} {Av : Nat → Prop} {x : PStp} {L : SLay} (hi : StepIn w h (fun _ => False) x L) (hb : Below h w V) (hh : h ≤ h') : StepIn V h' Av x L where
  nm := hi.nm
  r := (hi.r.touch0 (far_touch hb) (Nat.le_refl _) fun ad e h0 => by have := (hi.a ad e h0).resolve_right id; omega).more hb.size
  a := fun ad e h0 => .inl (Nat.lt_of_lt_of_le ((hi.a ad e h0).resolve_right id) hh)
  al := fun ad e h0 => Nat.lt_of_lt_of_le (hi.al ad e h0) hb.size
  n := hi.n
  c := hi.c
theorem ActIn.far {w V : World} {h h' : Nat} {Av : Nat → Prop} {x : PAct} {L : ALay} (hi : ActIn w h (fun _ => False) x L) (hfa : ∀ ad, L.fa = some ad → 0 < L.fn → ad.block < h) (hb : Below h w V) (hh : h ≤ h') (hw : h ≤ w.heap.size) : ActIn V h' Av x L where
  pr := (hi.pr.touch0 (far_touch hb) (Nat.le_refl _) fun ad e h0 => by have := low_of hi.pa ad e h0; omega).more hb.size
  pa := fun ad e h0 => .inl (Nat.lt_of_lt_of_le (low_of hi.pa ad e h0) hh)
  pn := hi.pn
  dr := (hi.dr.touch0 (far_touch hb) (Nat.le_refl _) fun ad e h0 => by have := low_of hi.da ad e h0; omega).more hb.size
  da := fun ad e h0 => .inl (Nat.lt_of_lt_of_le (low_of hi.da ad e h0) hh)
  dn := hi.dn
  dc := hi.dc
  rr := hi.rr
  ft := by
    obtain ⟨pr, nd, cr, dirs, pcu, nc, cc, cuts, h1, h2⟩ := hi.ft
    exact ⟨pr, nd, cr, dirs, pcu, nc, cc, cuts, h1.touch hfa hb hh hw, h2⟩
end Go.Proofs.YtdmcjomcbhdcbaaGreat
namespace Go.Proofs.YtdmcjomcbhdcbaaGreat
open Go.RowKit Go.Maps

theorem fr_hmono {w w1 : World} {h : Nat} {Av : Nat → Prop} (ht : Touch (fr (h + 2) Av) w w1) : Touch (fr h (fun _ => False)) w w1 := ht.mono fun k _ hk => ⟨by have := hk.1; omega, fun h => h⟩
set_option maxRecDepth 100000 in
set_option maxHeartbeats 8000000 in
theorem scripts_yes (w : World) (x : PPlace) (L : PlLay) (hx : PlaceIn w x L) (hok : x.ok = true) (A : Option Addr) (n c : Nat) (xs : List (PStp × SLay)) (hn : n = xs.length) (hnc : n ≤ c) (hst : StepsIn w w.heap.size A xs) (hn2 : n ≤ 1048576) (N r : Nat) (hK : KeptM x.wnd x.drv 0 N r) (hN : N ≤ 1048576) :
    Calls Tryz.prog 7 #[.agg (placeCells x L).toArray, .slice A n c] w fun e w' => e = .returned (.bool true) ∧ Below w.heap.size w w' := by
  have HMK : Hid (∀ o0, Calls Tryz.prog 9 #[.slice (some ⟨w.heap.size + 1, 0, none⟩) 1 1] ((w.alloc o0).alloc (.cells (placeCells x L).toArray 25)) fun e w' => ∃ dg dc wg wc mg mc q p mq mp Av, e = .returned (.tuple #[bothV dg dc wg wc mg mc, .bool true]) ∧ World1 w' (w.heap.size + 2) Av dg wg mg q p mq mp x.wnd x.drv x.wnd x.drv ∧ Caps dc wc mc ∧ Below w.heap.size w w' ∧ w.heap.size + 2 ≤ w'.heap.size) := Lib.hid fun o0 => by
    have hb : Below w.heap.size w ((w.alloc o0).alloc (.cells (placeCells x L).toArray 25)) := ((Below.refl _ w).alloc (Nat.le_refl _) _).alloc (by simp) _
    have hpi : PlaceIn ((w.alloc o0).alloc (.cells (placeCells x L).toArray 25)) x L := by
      obtain ⟨⟨vals, hf⟩, h2, h3, h4, h5, h6, h7, h8, h9⟩ := hx
      exact ⟨⟨vals, hf.keep hb⟩, h2, (h3.below hb).more hb.size, h4, h5, h6, h7, fun ad e h0 => Nat.lt_of_lt_of_le (h8 ad e h0) hb.size, h9⟩
    have hbl : Blk ((w.alloc o0).alloc (.cells (placeCells x L).toArray 25)) (w.heap.size + 1) 25 (placeCells x L).toArray := blk_last _ _ _ _ (by simp)
    refine (make_yes _ x L hpi hok (w.heap.size + 1) 0 1 (by simp) (by omega) fun j u hu => ?_).mono ?_
    · rw [Nat.zero_add, hbl.cell j]
      simpa using hu
    · rintro e w' ⟨dg, dc, wg, wc, mg, mc, q, p, mq, mp, Av, he, h1, h2, h3⟩
      rw [show ((w.alloc o0).alloc (.cells (placeCells x L).toArray 25)).heap.size = w.heap.size + 2 by simp] at h1
      exact ⟨dg, dc, wg, wc, mg, mc, q, p, mq, mp, Av, he, h1, h2, hb.trans (h3.mono (by simp; omega)), by have := h3.size; simp at this; omega⟩
  have HN := Lib.hid hn
  have HST := Lib.hid hst
  have HKM := Lib.hid hK
  generalize x.wnd = X0 at HMK HKM
  generalize x.drv = S0 at HMK HKM
  clear hx hok hn hst hK
  obtain ⟨there, room, fs, plan, off, fused, R, C, I⟩ := x
  obtain ⟨fa, fc, pa, plc⟩ := L
  obtain ⟨nf, hnf⟩ : ∃ nf, nf = fs.length := ⟨_, rfl⟩
  obtain ⟨np, hnp⟩ : ∃ np, np = plan.length := ⟨_, rfl⟩
  unfold placeCells bothV at HMK
  unfold placeCells
  simp only at HMK ⊢
  rw [← hnf, ← hnp] at HMK
  rw [← hnf, ← hnp]
  clear hnf hnp
  go_enter Tryz.func7, Tryz.ntmps7
  go_upto_region 2 with (first
    | (go_at_call 9; go_loud (refine (HMK.out _).mono ?_); rintro e w1 ⟨dg, dc, wg, wc, mg, mc, q, p, mq, mp, Av, rfl, hT1, hcap, hb1, hsw⟩; have HT1 := Lib.hid hT1; have HCAP := Lib.hid hcap; have HB1 := Lib.hid hb1; clear hT1 hcap hb1)
    | fail)
  refine wp_world fun W2 hW2 => ?_
  have hb12 : Below w1.heap.size w1 W2 := by rw [hW2]; exact (Below.refl _ w1).alloc (Nat.le_refl _) _
  have hs2 : W2.heap.size = w1.heap.size + 1 := by rw [hW2]; simp
  have hbk : Blk W2 w1.heap.size 36 #[.slice (some ⟨dg, 0, none⟩) 1 dc, .slice (some ⟨wg, 0, none⟩) 1 wc, .slice (some ⟨mg, 0, none⟩) 1 mc] := by rw [hW2]; exact blk_last _ _ _ _ rfl
  have HB2 : Hid (Below w.heap.size w W2) := Lib.hid (HB1.out.trans (hb12.mono (by omega)))
  have hT2 := HT1.out.boxed hb12
  rw [hs2] at hT2
  have HT2 := Lib.hid hT2
  have HBK : Hid (∀ Z, Touch (fr (w.heap.size + 2) (fun k => Av k ∨ (w1.heap.size ≤ k ∧ k < w1.heap.size + 1))) W2 Z → Z.cell? ⟨w1.heap.size, 0, none⟩ = some (.slice (some ⟨dg, 0, none⟩) 1 dc) ∧ Z.cell? ⟨w1.heap.size, 1, none⟩ = some (.slice (some ⟨wg, 0, none⟩) 1 wc) ∧ Z.cell? ⟨w1.heap.size, 2, none⟩ = some (.slice (some ⟨mg, 0, none⟩) 1 mc)) := Lib.hid fun Z hZ => by
    have e : Z.heap[w1.heap.size]? = W2.heap[w1.heap.size]? := fr_av hZ (.inr (by omega)) (by omega)
    have hb2 : Blk Z w1.heap.size 36 _ := e.trans hbk
    exact ⟨hb2.cell 0, hb2.cell 1, hb2.cell 2⟩
  have HFS : Hid (∀ o, o = Obj.cells #[.int .u8 49] 5 (1, 2) → Calls Tryz.prog 25 #[.agg #[.slice (some ⟨dg, 0, none⟩) 1 dc, .slice (some ⟨wg, 0, none⟩) 1 wc, .slice (some ⟨mg, 0, none⟩) 1 mc], .agg #[.int .i64 1, .string ⟨#[102, 105, 114, 115, 116]⟩, .slice (some ⟨W2.heap.size, 0, none⟩) 1 1, .int .i64 0, .int .i64 0, .int .i64 0, .int .i64 0, .slice none 0 0, .slice none 0 0, .int .i64 0, .int .i64 0, .int .i64 0, .slice none 0 0]] (W2.alloc o) fun e w' => e = .returned (.bool true) ∧ (∃ X S, KeptM X S 5 (N + 5) r ∧ World1 w' (w.heap.size + 2) (fun k => Av k ∨ (w1.heap.size ≤ k ∧ k < w1.heap.size + 1)) dg wg mg q p mq mp X S X S) ∧ Touch (fr (w.heap.size + 2) (fun k => Av k ∨ (w1.heap.size ≤ k ∧ k < w1.heap.size + 1))) W2 w') := Lib.hid fun o ho => by
    have hb3 : Below W2.heap.size W2 (W2.alloc o) := (Below.refl _ _).alloc (Nat.le_refl _) _
    have hcell : (W2.alloc o).cell? ⟨W2.heap.size, 0, none⟩ = some (.int .u8 49) := by
      unfold World.cell?
      rw [show (W2.alloc o).heap[W2.heap.size]? = some o from by show (W2.heap.push o)[W2.heap.size]? = some o; simp, ho]
      rfl
    have hrd : Reads (W2.alloc o) (W2.alloc o).heap.size 1 (some ⟨W2.heap.size, 0, none⟩) 1 ([(49 : UInt8)].map B8) := by
      refine ⟨rfl, fun _ => ⟨_, rfl, by simp, fun j u hu => ?_⟩⟩
      cases j with
      | zero => injection hu with hu; subst hu; exact hcell
      | succ j => simp at hu
    have j := same_write (W2.alloc o) (w.heap.size + 2) dg dc wg wc mg mc q p mq mp _ X0 S0 (HT2.out.boxed hb3) (by have := hb3.size; omega) HCAP.out ⟨1, [102, 105, 114, 115, 116], [49], ⟨0, 0, 0, 0, [], [], 0, 0, 0⟩⟩ ⟨some ⟨W2.heap.size, 0, none⟩, 1, ⟨none, 0, none, 0, none, 0, 0⟩⟩ rfl ⟨by simp [maxLen], hrd, fun ad e _ => by injection e with e; subst e; exact .inr (.inr ⟨Nat.le_refl _, by simp⟩), fun ad e _ => by injection e with e; subst e; simp, by simp, by simp⟩ HKM.out (by omega) (by omega)
    rw [Nat.zero_add] at j
    refine j.mono ?_
    rintro e w' ⟨he, ⟨X, S, h1, h2⟩, h3⟩
    have hE := World1.end_ h2 h3 hb3 (fun k hk => .inl hk) HT2.out.avd
    exact ⟨he, ⟨X, S, h1, hE.1⟩, hE.2⟩
  have hcv := Go.Joins.run_convert_bytes_const_at (P := Tryz.prog) W2 26 5 #[.int .u8 49] 1 1 W2.heap.size rfl Tryz.underlying26 Tryz.underlying5
  obtain ⟨b0, b1, b2⟩ := HBK.out W2 (Touch.refl _ _)
  have hw1l : w1.heap.size < W2.heap.size := by omega
  have HS2 := Lib.hid hs2
  clear hW2 hb12 hbk hT2 hs2
  go_upto_region 6 with (first
    | (go_at_call 25; go_loud (refine (HFS.out _ rfl).mono ?_); rintro e w3 ⟨rfl, ⟨X1, S1, hk1, hT3⟩, ht3⟩; have HK1 := Lib.hid hk1; have HT3 := Lib.hid hT3; have HTT3 := Lib.hid ht3; obtain ⟨d0, d1, d2⟩ := HBK.out w3 ht3; clear hk1 hT3 ht3)
    | (go_at_call 30; go_loud (refine (bsame_any w3 (w.heap.size + 2) dg dc wg wc mg mc q p mq mp _ X1 S1 HT3.out (by have := HTT3.out.size; omega) HCAP.out HK1.out).mono ?_); rintro e w4 ⟨rfl, hb4⟩; have HB4 := Lib.hid hb4; clear hb4)
    | fail)
  have hw3 := HTT3.out.size
  clear b0 b1 b2 d0 d1 d2 hcv
  go_wp2
  go_loopw [7] (fun s7 wr => ∃ j : Nat, j ≤ n ∧ s7 = .int .i64 j ∧ (∃ X S, KeptM X S (5 + 5 * j) (N + 5 + 5 * j) r ∧ World1 wr (w.heap.size + 2) (fun k => Av k ∨ (w1.heap.size ≤ k ∧ k < w1.heap.size + 1)) dg wg mg q p mq mp X S X S) ∧ Touch (fr (w.heap.size + 2) (fun k => Av k ∨ (w1.heap.size ≤ k ∧ k < w1.heap.size + 1))) W2 wr) (fun s7 _ => n - (intOf s7).toNat)
  case atStart => exact ⟨0, Nat.zero_le _, rfl, ⟨X1, S1, HK1.out, HT3.out.below HB4.out⟩, HTT3.out.then_ (Touch.of_below HB4.out)⟩
  case round =>
    obtain ⟨j, hj, rfl, ⟨X2, S2, hk2, hT5⟩, ht5⟩ := hrel
    have HK2 := Lib.hid hk2
    have HT5 := Lib.hid hT5
    have HTT5 := Lib.hid ht5
    obtain ⟨b0, b1, b2⟩ := HBK.out wr ht5
    have hbwr : Below w.heap.size w wr := HB2.out.trans (fr_below (fr_hmono ht5) (by have := HB2.out.size; omega))
    have HBR := Lib.hid hbwr
    clear hk2 hT5 ht5 hbwr
    by_cases hlt : j < n
    · obtain ⟨xl, hxl⟩ : ∃ xl, xs[j]? = some xl := ⟨_, List.getElem?_eq_getElem (by rw [← HN.out]; exact hlt)⟩
      obtain ⟨g, o, rfl, hg, hcl⟩ := HST.out.at_ j xl hxl
      have hmem := List.mem_of_getElem? hxl
      have hsi := HST.out.step xl hmem
      have hai := HST.out.act xl hmem
      have hfa := HST.out.fa xl hmem
      obtain ⟨⟨kind, nm, data, ⟨ak, ap, aa, an, adata, aplan, aR, aC, aI⟩⟩, ⟨da, dcc, ⟨ada, adc, apa, apc, afa, afn, afc⟩⟩⟩ := xl
      simp only at hsi hai hfa hcl
      have HSM : Hid (∀ V, Below wr.heap.size wr V → Calls Tryz.prog 25 #[.agg #[.slice (some ⟨dg, 0, none⟩) 1 dc, .slice (some ⟨wg, 0, none⟩) 1 wc, .slice (some ⟨mg, 0, none⟩) 1 mc], .agg #[.int .i64 kind, .string ⟨nm.toArray⟩, .slice da data.length dcc, .int .i64 ak, .int .i64 ap, .int .i64 aa, .int .i64 an, .slice ada adata.length adc, .slice apa aplan.length apc, .int .i64 aR, .int .i64 aC, .int .i64 aI, .slice afa afn afc]] V fun e w' => e = .returned (.bool true) ∧ (∃ X S, KeptM X S (5 + 5 * (j + 1)) (N + 5 + 5 * (j + 1)) r ∧ World1 w' (w.heap.size + 2) (fun k => Av k ∨ (w1.heap.size ≤ k ∧ k < w1.heap.size + 1)) dg wg mg q p mq mp X S X S) ∧ Touch (fr (w.heap.size + 2) (fun k => Av k ∨ (w1.heap.size ≤ k ∧ k < w1.heap.size + 1))) W2 w') := Lib.hid fun V hV => by
        have hbV : Below w.heap.size w V := HBR.out.trans (hV.mono HBR.out.size)
        have j2 := same_any V (w.heap.size + 2) dg dc wg wc mg mc q p mq mp _ X2 S2 (HT5.out.below hV) (by have h1 := HTT5.out.size; have h2 := hV.size; omega) HCAP.out ⟨kind, nm, data, ⟨ak, ap, aa, an, adata, aplan, aR, aC, aI⟩⟩ ⟨da, dcc, ⟨ada, adc, apa, apc, afa, afn, afc⟩⟩ (hsi.far hbV (by omega)) (hai.far hfa hbV (by omega) (Nat.le_refl _)) HK2.out (by omega) (by omega)
        unfold bothV stepCells at j2
        refine j2.mono ?_
        rintro e w' ⟨he, ⟨X, S, h1, h2⟩, h3⟩
        exact ⟨he, ⟨X, S, by rw [show 5 + 5 * (j + 1) = 5 + 5 * j + 5 by omega, show N + 5 + 5 * (j + 1) = N + 5 + 5 * j + 5 by omega]; exact h1, h2⟩, (HTT5.out.then_ (Touch.of_below hV)).then_ h3⟩
      obtain ⟨dl, hdl⟩ : ∃ dl, dl = data.length := ⟨_, rfl⟩
      obtain ⟨adl, hadl⟩ : ∃ adl, adl = adata.length := ⟨_, rfl⟩
      obtain ⟨apl, hapl⟩ : ∃ apl, apl = aplan.length := ⟨_, rfl⟩
      rw [← hdl, ← hadl, ← hapl] at HSM
      have HQS : Hid (∀ Z, Touch (fr (w.heap.size + 2) (fun k => Av k ∨ (w1.heap.size ≤ k ∧ k < w1.heap.size + 1))) W2 Z → Z.cell? ⟨w1.heap.size, 0, none⟩ = some (.slice (some ⟨dg, 0, none⟩) 1 dc) ∧ Z.cell? ⟨w1.heap.size, 1, none⟩ = some (.slice (some ⟨wg, 0, none⟩) 1 wc) ∧ Z.cell? ⟨w1.heap.size, 2, none⟩ = some (.slice (some ⟨mg, 0, none⟩) 1 mc) ∧ Z.cell? ⟨g, o + j * 13, none⟩ = some (.int .i64 kind) ∧ Z.cell? ⟨g, o + j * 13 + 1, none⟩ = some (.string ⟨nm.toArray⟩) ∧ Z.cell? ⟨g, o + j * 13 + 2, none⟩ = some (.slice da dl dcc) ∧ Z.cell? ⟨g, o + j * 13 + 3, none⟩ = some (.int .i64 ak) ∧ Z.cell? ⟨g, o + j * 13 + 4, none⟩ = some (.int .i64 ap) ∧ Z.cell? ⟨g, o + j * 13 + 5, none⟩ = some (.int .i64 aa) ∧ Z.cell? ⟨g, o + j * 13 + 6, none⟩ = some (.int .i64 an) ∧ Z.cell? ⟨g, o + j * 13 + 7, none⟩ = some (.slice ada adl adc) ∧ Z.cell? ⟨g, o + j * 13 + 8, none⟩ = some (.slice apa apl apc) ∧ Z.cell? ⟨g, o + j * 13 + 9, none⟩ = some (.int .i64 aR) ∧ Z.cell? ⟨g, o + j * 13 + 10, none⟩ = some (.int .i64 aC) ∧ Z.cell? ⟨g, o + j * 13 + 11, none⟩ = some (.int .i64 aI) ∧ Z.cell? ⟨g, o + j * 13 + 12, none⟩ = some (.slice afa afn afc)) := Lib.hid fun Z hZ => by
        obtain ⟨z0, z1, z2⟩ := HBK.out Z hZ
        have hbZ : Below w.heap.size w Z := HB2.out.trans (fr_below (fr_hmono hZ) (by have := HB2.out.size; omega))
        have hc : ∀ i u, (stepCells ⟨kind, nm, data, ⟨ak, ap, aa, an, adata, aplan, aR, aC, aI⟩⟩ ⟨da, dcc, ⟨ada, adc, apa, apc, afa, afn, afc⟩⟩)[i]? = some u → Z.cell? ⟨g, o + j * 13 + i, none⟩ = some u := fun i u hu => (hbZ.cell (p := ⟨g, o + j * 13 + i, none⟩) hg).trans (hcl i u hu)
        refine ⟨z0, z1, z2, by exact hc 0 _ rfl, by exact hc 1 _ rfl, by rw [hdl]; exact hc 2 _ rfl, by exact hc 3 _ rfl, by exact hc 4 _ rfl, by exact hc 5 _ rfl, by exact hc 6 _ rfl, by rw [hadl]; exact hc 7 _ rfl, by rw [hapl]; exact hc 8 _ rfl, by exact hc 9 _ rfl, by exact hc 10 _ rfl, by exact hc 11 _ rfl, by exact hc 12 _ rfl⟩
      obtain ⟨y0, y1, y2, y3, y4, y5, y6, y7, y8, y9, y10, y11, y12, y13, y14, y15⟩ := HQS.out wr HTT5.out
      have i0 : (0 : Int) ≤ (j : Int) := by omega
      have i1 : (j : Int) < (n : Int) := by omega
      clear hxl hcl hmem hsi hai hfa hdl hadl hapl b0 b1 b2
      go_wp2
      go_region_held3 (fun Z => Z.cell? ⟨w1.heap.size, 0, none⟩ = some (.slice (some ⟨dg, 0, none⟩) 1 dc) ∧ Z.cell? ⟨w1.heap.size, 1, none⟩ = some (.slice (some ⟨wg, 0, none⟩) 1 wc) ∧ Z.cell? ⟨w1.heap.size, 2, none⟩ = some (.slice (some ⟨mg, 0, none⟩) 1 mc) ∧ Z.cell? ⟨g, o + j * 13, none⟩ = some (.int .i64 kind) ∧ Z.cell? ⟨g, o + j * 13 + 1, none⟩ = some (.string ⟨nm.toArray⟩) ∧ Z.cell? ⟨g, o + j * 13 + 2, none⟩ = some (.slice da dl dcc) ∧ Z.cell? ⟨g, o + j * 13 + 3, none⟩ = some (.int .i64 ak) ∧ Z.cell? ⟨g, o + j * 13 + 4, none⟩ = some (.int .i64 ap) ∧ Z.cell? ⟨g, o + j * 13 + 5, none⟩ = some (.int .i64 aa) ∧ Z.cell? ⟨g, o + j * 13 + 6, none⟩ = some (.int .i64 an) ∧ Z.cell? ⟨g, o + j * 13 + 7, none⟩ = some (.slice ada adl adc) ∧ Z.cell? ⟨g, o + j * 13 + 8, none⟩ = some (.slice apa apl apc) ∧ Z.cell? ⟨g, o + j * 13 + 9, none⟩ = some (.int .i64 aR) ∧ Z.cell? ⟨g, o + j * 13 + 10, none⟩ = some (.int .i64 aC) ∧ Z.cell? ⟨g, o + j * 13 + 11, none⟩ = some (.int .i64 aI) ∧ Z.cell? ⟨g, o + j * 13 + 12, none⟩ = some (.slice afa afn afc)) (first | (with_reducible exact (HQS.out _ HTT7.out)) | (with_reducible exact (HQS.out _ HTT6.out)) | go_keep) ((first
        | (go_at_call 25; go_loud (refine (HSM.out _ (by first | exact Below.refl _ _ | exact below_drew1 (Below.refl _ _))).mono ?_); rintro e w6 ⟨rfl, ⟨X6, S6, hk6, hT6⟩, ht6⟩; have HK6 := Lib.hid hk6; have HT6 := Lib.hid hT6; have HTT6 := Lib.hid ht6; clear hk6 hT6 ht6)
        | (go_at_call 30; go_loud (refine (bsame_any w6 (w.heap.size + 2) dg dc wg wc mg mc q p mq mp _ X6 S6 HT6.out (by have := HTT6.out.size; omega) HCAP.out HK6.out).mono ?_); rintro e w7 ⟨rfl, hb7⟩; have HT7 := Lib.hid (HT6.out.below hb7); have HTT7 := Lib.hid (HTT6.out.then_ (Touch.of_below hb7)); clear hb7)
        | fail))
      all_goals
        go_wp2
        exact ⟨⟨j + 1, by omega, by go_num, ⟨X6, S6, HK6.out, HT7.out⟩, HTT7.out⟩, by simp only [intOf]; omega⟩
    · go_wp2
      go_ret
      exact ⟨rfl, HBR.out⟩
end Go.Proofs.YtdmcjomcbhdcbaaGreat
namespace Go.Proofs.YtdmcjomcbhdcbaaGreat
open Go.RowKit Go.Maps

set_option maxRecDepth 100000 in
set_option maxHeartbeats 8000000 in
theorem scripts_no (w : World) (x : PPlace) (L : PlLay) (hx : PlaceIn w x L) (hok : x.ok = false) (A : Option Addr) (n c : Nat) (xs : List (PStp × SLay)) (hn : n = xs.length) (hnc : n ≤ c) (hst : StepsIn w w.heap.size A xs) (hn2 : n ≤ 1048576) :
    Calls Tryz.prog 7 #[.agg (placeCells x L).toArray, .slice A n c] w fun e w' => e = .returned (.bool true) ∧ Below w.heap.size w w' := by
  have HMK : Hid (∀ o0, Calls Tryz.prog 9 #[.slice (some ⟨w.heap.size + 1, 0, none⟩) 1 1] ((w.alloc o0).alloc (.cells (placeCells x L).toArray 25)) fun e w' => ∃ dg dc wg wc mg mc, e = .returned (.tuple #[bothV dg dc wg wc mg mc, .bool true]) ∧ Rows0 w' dg wg mg ∧ Caps dc wc mc ∧ Below w.heap.size w w') := Lib.hid fun o0 => by
    have hb : Below w.heap.size w ((w.alloc o0).alloc (.cells (placeCells x L).toArray 25)) := ((Below.refl _ w).alloc (Nat.le_refl _) _).alloc (by simp) _
    have hpi : PlaceIn ((w.alloc o0).alloc (.cells (placeCells x L).toArray 25)) x L := by
      obtain ⟨⟨vals, hf⟩, h2, h3, h4, h5, h6, h7, h8, h9⟩ := hx
      exact ⟨⟨vals, hf.keep hb⟩, h2, (h3.below hb).more hb.size, h4, h5, h6, h7, fun ad e h0 => Nat.lt_of_lt_of_le (h8 ad e h0) hb.size, h9⟩
    have hbl : Blk ((w.alloc o0).alloc (.cells (placeCells x L).toArray 25)) (w.heap.size + 1) 25 (placeCells x L).toArray := blk_last _ _ _ _ (by simp)
    refine (make_no _ x L hpi hok (w.heap.size + 1) 0 1 (by simp) (by omega) fun j u hu => ?_).mono ?_
    · rw [Nat.zero_add, hbl.cell j]
      simpa using hu
    · rintro e w' ⟨dg, dc, wg, wc, mg, mc, he, h1, h2, h3, h4, h5⟩
      exact ⟨dg, dc, wg, wc, mg, mc, he, ⟨h1, h2, h3, cell_lt h1, cell_lt h2, cell_lt h3⟩, h4, hb.trans (h5.mono (by simp; omega))⟩
  have HN := Lib.hid hn
  have HST := Lib.hid hst
  clear hx hok hn hst
  obtain ⟨there, room, fs, plan, off, fused, R, C, I⟩ := x
  obtain ⟨fa, fc, pa, plc⟩ := L
  obtain ⟨nf, hnf⟩ : ∃ nf, nf = fs.length := ⟨_, rfl⟩
  obtain ⟨np, hnp⟩ : ∃ np, np = plan.length := ⟨_, rfl⟩
  unfold placeCells bothV at HMK
  unfold placeCells
  simp only at HMK ⊢
  rw [← hnf, ← hnp] at HMK
  rw [← hnf, ← hnp]
  clear hnf hnp
  go_enter Tryz.func7, Tryz.ntmps7
  go_upto_region 2 with (first
    | (go_at_call 9; go_loud (refine (HMK.out _).mono ?_); rintro e w1 ⟨dg, dc, wg, wc, mg, mc, rfl, hT1, hcap, hb1⟩; have HT1 := Lib.hid hT1; have HCAP := Lib.hid hcap; have HB1 := Lib.hid hb1; clear hT1 hcap hb1)
    | fail)
  refine wp_world fun W2 hW2 => ?_
  have hb12 : Below w1.heap.size w1 W2 := by rw [hW2]; exact (Below.refl _ w1).alloc (Nat.le_refl _) _
  have hs2 : W2.heap.size = w1.heap.size + 1 := by rw [hW2]; simp
  have hsw1 : w.heap.size ≤ w1.heap.size := HB1.out.size
  have hbk : Blk W2 w1.heap.size 36 #[.slice (some ⟨dg, 0, none⟩) 1 dc, .slice (some ⟨wg, 0, none⟩) 1 wc, .slice (some ⟨mg, 0, none⟩) 1 mc] := by rw [hW2]; exact blk_last _ _ _ _ rfl
  have HB2 : Hid (Below w.heap.size w W2) := Lib.hid (HB1.out.trans (hb12.mono (by omega)))
  have HT2 := Lib.hid (HT1.out.below hb12)
  have HBK : Hid (∀ Z, Below W2.heap.size W2 Z → Z.cell? ⟨w1.heap.size, 0, none⟩ = some (.slice (some ⟨dg, 0, none⟩) 1 dc) ∧ Z.cell? ⟨w1.heap.size, 1, none⟩ = some (.slice (some ⟨wg, 0, none⟩) 1 wc) ∧ Z.cell? ⟨w1.heap.size, 2, none⟩ = some (.slice (some ⟨mg, 0, none⟩) 1 mc)) := Lib.hid fun Z hZ => by
    have hb2 := hbk.below hZ (by omega)
    exact ⟨hb2.cell 0, hb2.cell 1, hb2.cell 2⟩
  have HFS : Hid (∀ o, o = Obj.cells #[.int .u8 49] 5 (1, 2) → Calls Tryz.prog 25 #[.agg #[.slice (some ⟨dg, 0, none⟩) 1 dc, .slice (some ⟨wg, 0, none⟩) 1 wc, .slice (some ⟨mg, 0, none⟩) 1 mc], .agg #[.int .i64 1, .string ⟨#[102, 105, 114, 115, 116]⟩, .slice (some ⟨W2.heap.size, 0, none⟩) 1 1, .int .i64 0, .int .i64 0, .int .i64 0, .int .i64 0, .slice none 0 0, .slice none 0 0, .int .i64 0, .int .i64 0, .int .i64 0, .slice none 0 0]] (W2.alloc o) fun e w' => e = .returned (.bool true) ∧ Below W2.heap.size W2 w') := Lib.hid fun o ho => by
    have hb3 : Below W2.heap.size W2 (W2.alloc o) := (Below.refl _ _).alloc (Nat.le_refl _) _
    have hcell : (W2.alloc o).cell? ⟨W2.heap.size, 0, none⟩ = some (.int .u8 49) := by
      unfold World.cell?
      rw [show (W2.alloc o).heap[W2.heap.size]? = some o from by show (W2.heap.push o)[W2.heap.size]? = some o; simp, ho]
      rfl
    have hrd : Reads (W2.alloc o) (W2.alloc o).heap.size 1 (some ⟨W2.heap.size, 0, none⟩) 1 ([(49 : UInt8)].map B8) := by
      refine ⟨rfl, fun _ => ⟨_, rfl, by simp, fun j u hu => ?_⟩⟩
      cases j with
      | zero => injection hu with hu; subst hu; exact hcell
      | succ j => simp at hu
    have j := same_nil (W2.alloc o) dg dc wg wc mg mc (HT2.out.below hb3) HCAP.out ⟨1, [102, 105, 114, 115, 116], [49], ⟨0, 0, 0, 0, [], [], 0, 0, 0⟩⟩ ⟨some ⟨W2.heap.size, 0, none⟩, 1, ⟨none, 0, none, 0, none, 0, 0⟩⟩ (by simp [maxLen]) hrd (by simp)
    refine j.mono ?_
    rintro e w' ⟨he, h1⟩
    exact ⟨he, hb3.trans (h1.mono hb3.size)⟩
  have hcv := Go.Joins.run_convert_bytes_const_at (P := Tryz.prog) W2 26 5 #[.int .u8 49] 1 1 W2.heap.size rfl Tryz.underlying26 Tryz.underlying5
  obtain ⟨b0, b1, b2⟩ := HBK.out W2 (Below.refl _ _)
  have hw1l : w1.heap.size < W2.heap.size := by omega
  have HS2 := Lib.hid hs2
  clear hW2 hb12 hbk hs2
  go_upto_region 6 with (first
    | (go_at_call 25; go_loud (refine (HFS.out _ rfl).mono ?_); rintro e w3 ⟨rfl, hb3⟩; have HB3 := Lib.hid hb3; obtain ⟨d0, d1, d2⟩ := HBK.out w3 hb3; clear hb3)
    | (go_at_call 30; go_loud (refine (bsame_nil w3 dg dc wg wc mg mc (HT2.out.below HB3.out) HCAP.out).mono ?_); rintro e w4 ⟨rfl, hb4⟩; have HB4 := Lib.hid (HB3.out.trans (hb4.mono HB3.out.size)); clear hb4)
    | fail)
  clear b0 b1 b2 d0 d1 d2 hcv
  go_wp2
  go_loopw [7] (fun s7 wr => ∃ j : Nat, j ≤ n ∧ s7 = .int .i64 j ∧ Below W2.heap.size W2 wr) (fun s7 _ => n - (intOf s7).toNat)
  case atStart => exact ⟨0, Nat.zero_le _, rfl, HB4.out⟩
  case round =>
    obtain ⟨j, hj, rfl, hb5⟩ := hrel
    have HB5 := Lib.hid hb5
    obtain ⟨b0, b1, b2⟩ := HBK.out wr hb5
    have hbwr : Below w.heap.size w wr := HB2.out.trans (hb5.mono HB2.out.size)
    have HBR := Lib.hid hbwr
    clear hb5 hbwr
    by_cases hlt : j < n
    · obtain ⟨xl, hxl⟩ : ∃ xl, xs[j]? = some xl := ⟨_, List.getElem?_eq_getElem (by rw [← HN.out]; exact hlt)⟩
      obtain ⟨g, o, rfl, hg, hcl⟩ := HST.out.at_ j xl hxl
      have hmem := List.mem_of_getElem? hxl
      have hsi := HST.out.step xl hmem
      obtain ⟨⟨kind, nm, data, ⟨ak, ap, aa, an, adata, aplan, aR, aC, aI⟩⟩, ⟨da, dcc, ⟨ada, adc, apa, apc, afa, afn, afc⟩⟩⟩ := xl
      simp only at hsi hcl
      have HSM : Hid (∀ V, Below wr.heap.size wr V → Calls Tryz.prog 25 #[.agg #[.slice (some ⟨dg, 0, none⟩) 1 dc, .slice (some ⟨wg, 0, none⟩) 1 wc, .slice (some ⟨mg, 0, none⟩) 1 mc], .agg #[.int .i64 kind, .string ⟨nm.toArray⟩, .slice da data.length dcc, .int .i64 ak, .int .i64 ap, .int .i64 aa, .int .i64 an, .slice ada adata.length adc, .slice apa aplan.length apc, .int .i64 aR, .int .i64 aC, .int .i64 aI, .slice afa afn afc]] V fun e w' => e = .returned (.bool true) ∧ Below wr.heap.size wr w') := Lib.hid fun V hV => by
        have hbV : Below w.heap.size w V := HBR.out.trans (hV.mono HBR.out.size)
        have hsf : StepIn V w.heap.size (fun _ => False) _ _ := hsi.far hbV (Nat.le_refl _)
        have j2 := same_nil V dg dc wg wc mg mc (HT2.out.below (HB5.out.trans (hV.mono HB5.out.size))) HCAP.out ⟨kind, nm, data, ⟨ak, ap, aa, an, adata, aplan, aR, aC, aI⟩⟩ ⟨da, dcc, ⟨ada, adc, apa, apc, afa, afn, afc⟩⟩ hsf.nm hsf.r hsf.n
        unfold bothV stepCells at j2
        refine j2.mono ?_
        rintro e w' ⟨he, h1⟩
        exact ⟨he, hV.trans (h1.mono hV.size)⟩
      obtain ⟨dl, hdl⟩ : ∃ dl, dl = data.length := ⟨_, rfl⟩
      obtain ⟨adl, hadl⟩ : ∃ adl, adl = adata.length := ⟨_, rfl⟩
      obtain ⟨apl, hapl⟩ : ∃ apl, apl = aplan.length := ⟨_, rfl⟩
      rw [← hdl, ← hadl, ← hapl] at HSM
      have HQS : Hid (∀ Z, Below wr.heap.size wr Z → Z.cell? ⟨w1.heap.size, 0, none⟩ = some (.slice (some ⟨dg, 0, none⟩) 1 dc) ∧ Z.cell? ⟨w1.heap.size, 1, none⟩ = some (.slice (some ⟨wg, 0, none⟩) 1 wc) ∧ Z.cell? ⟨w1.heap.size, 2, none⟩ = some (.slice (some ⟨mg, 0, none⟩) 1 mc) ∧ Z.cell? ⟨g, o + j * 13, none⟩ = some (.int .i64 kind) ∧ Z.cell? ⟨g, o + j * 13 + 1, none⟩ = some (.string ⟨nm.toArray⟩) ∧ Z.cell? ⟨g, o + j * 13 + 2, none⟩ = some (.slice da dl dcc) ∧ Z.cell? ⟨g, o + j * 13 + 3, none⟩ = some (.int .i64 ak) ∧ Z.cell? ⟨g, o + j * 13 + 4, none⟩ = some (.int .i64 ap) ∧ Z.cell? ⟨g, o + j * 13 + 5, none⟩ = some (.int .i64 aa) ∧ Z.cell? ⟨g, o + j * 13 + 6, none⟩ = some (.int .i64 an) ∧ Z.cell? ⟨g, o + j * 13 + 7, none⟩ = some (.slice ada adl adc) ∧ Z.cell? ⟨g, o + j * 13 + 8, none⟩ = some (.slice apa apl apc) ∧ Z.cell? ⟨g, o + j * 13 + 9, none⟩ = some (.int .i64 aR) ∧ Z.cell? ⟨g, o + j * 13 + 10, none⟩ = some (.int .i64 aC) ∧ Z.cell? ⟨g, o + j * 13 + 11, none⟩ = some (.int .i64 aI) ∧ Z.cell? ⟨g, o + j * 13 + 12, none⟩ = some (.slice afa afn afc)) := Lib.hid fun Z hZ => by
        obtain ⟨z0, z1, z2⟩ := HBK.out Z (HB5.out.trans (hZ.mono HB5.out.size))
        have hbZ : Below w.heap.size w Z := HBR.out.trans (hZ.mono HBR.out.size)
        have hc : ∀ i u, (stepCells ⟨kind, nm, data, ⟨ak, ap, aa, an, adata, aplan, aR, aC, aI⟩⟩ ⟨da, dcc, ⟨ada, adc, apa, apc, afa, afn, afc⟩⟩)[i]? = some u → Z.cell? ⟨g, o + j * 13 + i, none⟩ = some u := fun i u hu => (hbZ.cell (p := ⟨g, o + j * 13 + i, none⟩) hg).trans (hcl i u hu)
        refine ⟨z0, z1, z2, by exact hc 0 _ rfl, by exact hc 1 _ rfl, by rw [hdl]; exact hc 2 _ rfl, by exact hc 3 _ rfl, by exact hc 4 _ rfl, by exact hc 5 _ rfl, by exact hc 6 _ rfl, by rw [hadl]; exact hc 7 _ rfl, by rw [hapl]; exact hc 8 _ rfl, by exact hc 9 _ rfl, by exact hc 10 _ rfl, by exact hc 11 _ rfl, by exact hc 12 _ rfl⟩
      obtain ⟨y0, y1, y2, y3, y4, y5, y6, y7, y8, y9, y10, y11, y12, y13, y14, y15⟩ := HQS.out wr (Below.refl _ _)
      have i0 : (0 : Int) ≤ (j : Int) := by omega
      have i1 : (j : Int) < (n : Int) := by omega
      clear hxl hcl hmem hsi hdl hadl hapl b0 b1 b2
      go_wp2
      go_region_held3 (fun Z => Z.cell? ⟨w1.heap.size, 0, none⟩ = some (.slice (some ⟨dg, 0, none⟩) 1 dc) ∧ Z.cell? ⟨w1.heap.size, 1, none⟩ = some (.slice (some ⟨wg, 0, none⟩) 1 wc) ∧ Z.cell? ⟨w1.heap.size, 2, none⟩ = some (.slice (some ⟨mg, 0, none⟩) 1 mc) ∧ Z.cell? ⟨g, o + j * 13, none⟩ = some (.int .i64 kind) ∧ Z.cell? ⟨g, o + j * 13 + 1, none⟩ = some (.string ⟨nm.toArray⟩) ∧ Z.cell? ⟨g, o + j * 13 + 2, none⟩ = some (.slice da dl dcc) ∧ Z.cell? ⟨g, o + j * 13 + 3, none⟩ = some (.int .i64 ak) ∧ Z.cell? ⟨g, o + j * 13 + 4, none⟩ = some (.int .i64 ap) ∧ Z.cell? ⟨g, o + j * 13 + 5, none⟩ = some (.int .i64 aa) ∧ Z.cell? ⟨g, o + j * 13 + 6, none⟩ = some (.int .i64 an) ∧ Z.cell? ⟨g, o + j * 13 + 7, none⟩ = some (.slice ada adl adc) ∧ Z.cell? ⟨g, o + j * 13 + 8, none⟩ = some (.slice apa apl apc) ∧ Z.cell? ⟨g, o + j * 13 + 9, none⟩ = some (.int .i64 aR) ∧ Z.cell? ⟨g, o + j * 13 + 10, none⟩ = some (.int .i64 aC) ∧ Z.cell? ⟨g, o + j * 13 + 11, none⟩ = some (.int .i64 aI) ∧ Z.cell? ⟨g, o + j * 13 + 12, none⟩ = some (.slice afa afn afc)) (first | (with_reducible exact (HQS.out _ HB7.out)) | (with_reducible exact (HQS.out _ HB6.out)) | go_keep) ((first
        | (go_at_call 25; go_loud (refine (HSM.out _ (by first | exact Below.refl _ _ | exact below_drew1 (Below.refl _ _))).mono ?_); rintro e w6 ⟨rfl, hb6⟩; have HB6 := Lib.hid hb6; clear hb6)
        | (go_at_call 30; go_loud (refine (bsame_nil w6 dg dc wg wc mg mc (HT2.out.below (HB5.out.trans (HB6.out.mono HB5.out.size))) HCAP.out).mono ?_); rintro e w7 ⟨rfl, hb7⟩; have HB7 := Lib.hid (HB6.out.trans (hb7.mono HB6.out.size)); clear hb7)
        | fail))
      all_goals
        go_wp2
        exact ⟨⟨j + 1, by omega, by go_num, HB5.out.trans (HB7.out.mono HB5.out.size)⟩, by simp only [intOf]; omega⟩
    · go_wp2
      go_ret
      exact ⟨rfl, HBR.out⟩
end Go.Proofs.YtdmcjomcbhdcbaaGreat

/- One writing and a loss of power: the steps.; One writing and a loss of power: the walk.; One writing and a loss of power: the walk, a place with a drive. -/
import Derived.Test.YtdmcjomcbhdcbaaGreatM23
namespace Go.Proofs.YtdmcjomcbhdcbaaGreat
open Go.RowKit Go.Maps

theorem FilesAt.touch {w w' : World} {base : Nat} {v : Value} {fs : List File} {G : Nat → Prop} (h : FilesAt w base v fs) (ht : Touch G w w') (hG : ∀ k, base ≤ k → k < w.heap.size → ¬G k) : FilesAt w' base v fs := by
  obtain ⟨vals, hl, ho, hd⟩ := h
  exact ⟨vals, hl, ownsRow_keep ho fun k hk => ht.block k (ho.lt k hk).2 (hG k (ho.lt k hk).1 (ho.lt k hk).2), fun k f u hf hu => ownsRow_keep (hd k f u hf hu) fun j hj => ht.block j ((hd k f u hf hu).lt j hj).2 (hG j ((hd k f u hf hu).lt j hj).1 ((hd k f u hf hu).lt j hj).2)⟩
/-- A writing, refused ahead of any call or not. -/
theorem write_turn (q p : Nat) (X : Wnd) (S : Drv) (F : Nat → Prop) (nm : List UInt8) (A : Option Addr) (cap n : Nat) (bs : List UInt8) (w : World) (c N r : Nat) (hn : n = bs.length) (hd : WD w q p X S F) (hF : ∀ k, F k → k < w.heap.size) (hnm : nm.length ≤ maxLen)
    (hr : ∀ W, Touch F w W → Reads W W.heap.size 1 A n (bs.map B8)) (hA : ∀ ad, A = some ad → ad.block < w.heap.size ∧ ¬F ad.block) (hcap : n ≤ cap) (hbs : n ≤ 140737488351232)
    (hk : Kept X S c N r) (hc5 : c + 5 ≤ 1152921504606846976) (hNr : (N + 5) ≤ 1073741824) (Y : Wnd) (T : Drv) (x : Int) (hy : turnW X S nm bs = (Y, T, x)) :
    Calls Tryz.prog 10 #[.iface 40 (.pointer (some ⟨q, 0, none⟩)), .string ⟨nm.toArray⟩, .slice A n cap] w fun e w' => e = .returned (.int .i64 x) ∧ WD w' q p Y T (grow F w w') ∧ Touch F w w' := by
  subst hn
  unfold turnW at hy
  by_cases hl : lookE nm = 0
  · rw [if_pos hl] at hy
    exact awrite_any q p X S F ⟨nm.toArray⟩ A cap bs w c N r hd hF (fun W => by
      have := look_any ⟨q, 0, none⟩ nm W hnm
      rw [hl] at this
      exact this) (by show nm.toArray.size ≤ maxLen; simpa using hnm) hr hA hcap hbs hk hc5 (by omega) hNr Y T x (by rw [show (⟨nm.toArray⟩ : ByteArray).data.toList = nm by simp]; exact hy)
  · rw [if_neg hl] at hy
    injection hy with e1 hy
    injection hy with e2 e3
    subst e1 e2 e3
    refine (write_bad ⟨q, 0, none⟩ nm hnm hl A _ cap w).mono ?_
    rintro e w' ⟨he, hb⟩
    exact ⟨he, (WD.below hd hb).mono fun k hk => .inl hk, Touch.of_below hb⟩
theorem wcrashd_any (q p : Nat) (X : Wnd) (S : Drv) (N : Nat) (F : Nat → Prop) (pr : Option Addr) (nd cr : Nat) (dirs : List Bool) (pc : Option Addr) (nc cc : Nat) (cuts : List Int) (w : World) (h : WD w q p X S F) (hI : S.Inv N) (hN : N ≤ 2199023254000)
    (hr : Reads w w.heap.size 1 pr nd (dirs.map boolV)) (hc : Reads w w.heap.size 1 pc nc (cuts.map intV)) (hrs : ∀ ad, pr = some ad → 0 < nd → ad.spot = none) (hcs : ∀ ad, pc = some ad → 0 < nc → ad.spot = none) (hnd : nd ≤ 140737488351232) (hnc : nc ≤ 140737488351232) :
    Calls Tryz.prog 13 #[.pointer (some ⟨p, 0, none⟩), .agg #[.slice pr nd cr, .slice pc nc cc]] w fun e w' => e = .returned (.int .i64 0) ∧ WD w' q p X (S.crash dirs cuts) (grow F w w') ∧ Touch F w w' := by
  obtain ⟨FW, FD, hA, hF⟩ := h
  refine (crash_any p S N FD pr nd cr dirs pc nc cc cuts w hA.dr hI hN hr hc hrs hcs hnd hnc).mono ?_
  rintro e w' ⟨he, h1, ht⟩
  refine ⟨he, ⟨_, _, hA.drive h1 ht, fun k hk => ?_⟩, ht.mono fun k _ hk => hF k (.inr hk)⟩
  rcases hk with hk | hk | hk
  · exact .inl (hF k (.inl hk))
  · exact .inl (hF k (.inr hk))
  · exact .inr hk
/-- The wound of a place. -/
theorem wnd_okn (x : PPlace) (hp : x.plan.length ≤ 8796093021952) (hr : x.round = 0) : x.wnd.Okn 0 := by
  unfold PPlace.wnd
  have h1 : (Wnd.new.arm x.plan).Okn 0 := Wnd.Okn.new.arm x.plan hp
  have h2 : ({ Wnd.new.arm x.plan with away := x.off } : Wnd).Okn 0 := h1.away x.off
  split
  · exact h2.fused x.round x.call x.inside (by rw [hr]; decide)
  · exact h2
theorem place_kept (x : PPlace) (hp : x.plan.length ≤ 8796093021952) (hr : x.round = 0) (hok : x.ok = true) (hf : x.files.length + 5 ≤ 1073741824) (hb : ∀ f ∈ x.files, f.2.length ≤ 1073741824) : Kept x.wnd x.drv 0 x.files.length x.room.toNat ∧ Holds x.drv (fun s y => y = x.drv.shows s) := by
  have hlo : loadOk x.room x.files = true := by
    unfold PPlace.ok at hok
    simp only [Bool.and_eq_true] at hok
    exact hok.2
  unfold loadOk at hlo
  simp only [Bool.and_eq_true, decide_eq_true_eq] at hlo
  obtain ⟨⟨h0, h1⟩, hl⟩ := hlo
  have h := loadK_facts x.files (Drv.new x.room.toNat) 0 (Drv.new_inv _ 0 (by omega) (by omega)) rfl rfl (fun i hi => absurd hi (by simp [Drv.new])) hl hb (by omega)
  rw [Nat.zero_add] at h
  exact ⟨⟨wnd_okn x hp hr, h.1, h.2.2.2.2⟩, holds_plain h.1 h.2.1 h.2.2.1 h.2.2.2.1⟩
end Go.Proofs.YtdmcjomcbhdcbaaGreat
namespace Go.Proofs.YtdmcjomcbhdcbaaGreat
open Go.RowKit Go.Maps

/-- The place, with the fuse of the writing. -/
def PPlace.lit (x : PPlace) (c i : Int) : PPlace := { x with fused := true, round := 0, call := c, inside := i }
theorem cell_lt {w : World} {p : Addr} {u : Value} (h : w.cell? p = some u) : p.block < w.heap.size := by
  rcases Nat.lt_or_ge p.block w.heap.size with h1 | h1
  · exact h1
  · unfold World.cell? at h
    rw [Array.getElem?_eq_none h1] at h
    cases h
/-- A fate, as it is handed in. -/
structure FateIn (w : World) (pr : Option Addr) (nd : Nat) (dirs : List Bool) (pc : Option Addr) (nc : Nat) (cuts : List Int) : Prop where
  r : Reads w w.heap.size 1 pr nd (dirs.map boolV)
  c : Reads w w.heap.size 1 pc nc (cuts.map intV)
  rs : ∀ ad, pr = some ad → 0 < nd → ad.spot = none
  cs : ∀ ad, pc = some ad → 0 < nc → ad.spot = none
  nr : nd ≤ 140737488351232
  ncl : nc ≤ 140737488351232

set_option maxRecDepth 100000 in
set_option maxHeartbeats 8000000 in
theorem turn_no (w : World) (x : PPlace) (L : PlLay) (hx : PlaceIn w x L) (nm : List UInt8) (D : Option Addr) (dn dc : Nat) (call inside : Int) (pr : Option Addr) (nd cr : Nat) (pc : Option Addr) (nc cc : Nat) (hno : x.ok = false) :
    Calls Tryz.prog 3 #[.agg (placeCells x L).toArray, .string ⟨nm.toArray⟩, .slice D dn dc, .int .i64 call, .int .i64 inside, .agg #[.slice pr nd cr, .slice pc nc cc]] w fun e w' => e = .returned (.bool true) ∧ Below w.heap.size w w' := by
  have HPI : Hid (∀ V, Below w.heap.size w V → PlaceIn V (x.lit call inside) L) := Lib.hid fun V hV => by
    obtain ⟨⟨vals, hf⟩, h2, h3, h4, h5, h6, h7, h8, h9⟩ := hx
    exact ⟨⟨vals, hf.keep hV⟩, h2, (h3.below hV).more hV.size, h4, h5, h6, h7, fun ad e h0 => Nat.lt_of_lt_of_le (h8 ad e h0) hV.size, h9⟩
  have HNO : Hid ((x.lit call inside).ok = false) := Lib.hid hno
  clear hx hno
  obtain ⟨there, room, fs, plan, off, fused, R, C, I⟩ := x
  obtain ⟨fa, fc, pa, plc⟩ := L
  obtain ⟨nf, hnf⟩ : ∃ nf, nf = fs.length := ⟨_, rfl⟩
  obtain ⟨np, hnp⟩ : ∃ np, np = plan.length := ⟨_, rfl⟩
  unfold placeCells
  simp only
  rw [← hnf, ← hnp]
  have HNF := Lib.hid hnf
  have HNP := Lib.hid hnp
  clear hnf hnp
  go_enter Tryz.func3, Tryz.ntmps3
  go_upto_region 1 with fail
  refine wp_world fun V0 hV0 => ?_
  have HB0 : Hid (Below w.heap.size w V0) := Lib.hid (by rw [hV0]; exact ((Below.refl _ _).alloc (Nat.le_refl _) _).alloc (by simp) _)
  have HPB0 : Hid (Blk V0 w.heap.size 25 #[.bool there, .int .i64 room, .slice fa nf fc, .slice pa np plc, .bool off, .bool fused, .int .i64 R, .int .i64 C, .int .i64 I]) := Lib.hid (by rw [hV0]; exact (Blk.new _ _ _).alloc _)
  have HFB0 : Hid (Blk V0 (w.heap.size + 1) 30 #[.slice pr nd cr, .slice pc nc cc]) := Lib.hid (by rw [hV0]; exact blk_last _ _ _ _ (by simp))
  have hs0 : w.heap.size + 2 ≤ V0.heap.size := by rw [hV0]; simp
  clear hV0
  go_upto_region 7 with (go_at_call 8; refine (awake_any V0).mono ?_; rintro e W1 ⟨rfl, hb1⟩; have HB1 := Lib.hid hb1; have hpb1 := HPB0.out.below hb1 HPB0.out.lt; have HPB1 := Lib.hid hpb1; have b5 := hpb1.cell 5; have b6 := hpb1.cell 6; have b7 := hpb1.cell 7; have b8 := hpb1.cell 8; simp at b5 b6 b7 b8; have bz := hpb1.frozen; have bl := hpb1.lt; clear hb1 hpb1)
  refine wp_world fun V2 hV2 => ?_
  have HPB2 : Hid (Blk V2 w.heap.size 25 #[.bool there, .int .i64 room, .slice fa nf fc, .slice pa np plc, .bool off, .bool true, .int .i64 0, .int .i64 call, .int .i64 inside]) := Lib.hid (by rw [hV2]; exact (((HPB1.out.set_ 5 _).set_ 6 _).set_ 7 _).set_ 8 _)
  have HT2 : Hid (Touch (· = w.heap.size) W1 V2) := Lib.hid (by
    rw [hV2]
    iterate 4 (refine Touch.then_ ?_ (Touch.setCell _ _ _ rfl))
    exact Touch.refl _ _)
  have hs1 : V0.heap.size ≤ W1.heap.size := HB1.out.size
  have hs2 : W1.heap.size ≤ V2.heap.size := HT2.out.size
  have HB2 : Hid (Below w.heap.size w V2) := Lib.hid ((HB0.out.trans (HB1.out.mono (by omega))).trans (HT2.out.below (by omega) (fun k e => by omega)))
  have HFB2 : Hid (Blk V2 (w.heap.size + 1) 30 #[.slice pr nd cr, .slice pc nc cc]) := Lib.hid ((HFB0.out.below HB1.out HFB0.out.lt).touch HT2.out (by omega))
  have p0 := HPB2.out.cell 0
  have p1 := HPB2.out.cell 1
  have p2 := HPB2.out.cell 2
  have p3 := HPB2.out.cell 3
  have p4 := HPB2.out.cell 4
  have p5 := HPB2.out.cell 5
  have p6 := HPB2.out.cell 6
  have p7 := HPB2.out.cell 7
  have p8 := HPB2.out.cell 8
  simp at p0 p1 p2 p3 p4 p5 p6 p7 p8
  have pl := HPB2.out.lt
  clear hV2 b5 b6 b7 b8 bz bl
  have HGP : Hid (∀ g, Blk (V2.alloc (.cells #[.bool there, .int .i64 room, .slice fa nf fc, .slice pa np plc, .bool off, .bool true, .int .i64 0, .int .i64 call, .int .i64 inside] 25)) g 25 #[.bool there, .int .i64 room, .slice fa nf fc, .slice pa np plc, .bool off, .bool true, .int .i64 0, .int .i64 call, .int .i64 inside] → ∀ j u, (placeCells ((⟨there, room, fs, plan, off, fused, R, C, I⟩ : PPlace).lit call inside) ⟨fa, fc, pa, plc⟩)[j]? = some u → (V2.alloc (.cells #[.bool there, .int .i64 room, .slice fa nf fc, .slice pa np plc, .bool off, .bool true, .int .i64 0, .int .i64 call, .int .i64 inside] 25)).cell? ⟨g, 0 + j, none⟩ = some u) := Lib.hid fun g hb j u hj => by
    rw [Nat.zero_add, hb.cell j, HNF.out, HNP.out]
    have e : (placeCells ((⟨there, room, fs, plan, off, fused, R, C, I⟩ : PPlace).lit call inside) ⟨fa, fc, pa, plc⟩).toArray = #[.bool there, .int .i64 room, .slice fa fs.length fc, .slice pa plan.length plc, .bool off, .bool true, .int .i64 0, .int .i64 call, .int .i64 inside] := rfl
    rw [← e, List.getElem?_toArray]
    exact hj
  go_wp2_with (first
    | (go_at_call 9; refine (make_no _ ((⟨there, room, fs, plan, off, fused, R, C, I⟩ : PPlace).lit call inside) ⟨fa, fc, pa, plc⟩ (HPI.out _ (HB2.out.alloc HB2.out.size _)) HNO.out V2.heap.size 0 1 (by simp) (by omega) (HGP.out _ (Blk.new _ _ _))).mono ?_; rintro e W3 ⟨dg, dgc, wg, wgc, mg, mgc, rfl, _, hw3, _, hcap, hb3⟩; unfold bothV; have hwl : wg < W3.heap.size := cell_lt hw3; have hwc := hcap.u; have HB3 := Lib.hid hb3; clear hcap hb3)
    | (go_at_call 10; refine (write_nil _ D dn dc _).mono ?_; rintro e W4 ⟨rfl, hb4⟩; have HB4 := Lib.hid hb4; clear hb4)
    | fail)
  go_ret
  have h3 : Below w.heap.size w W3 := (HB2.out.alloc HB2.out.size _).trans (HB3.out.mono (by have := HB2.out.size; simp; omega))
  exact ⟨rfl, (h3.alloc h3.size _).trans (HB4.out.mono (by have := h3.size; simp; omega))⟩
end Go.Proofs.YtdmcjomcbhdcbaaGreat
namespace Go.Proofs.YtdmcjomcbhdcbaaGreat
open Go.RowKit Go.Maps

theorem FateIn.keep {w V : World} {pr : Option Addr} {nd : Nat} {dirs : List Bool} {pc : Option Addr} {nc : Nat} {cuts : List Int} (h : FateIn w pr nd dirs pc nc cuts) (hb : Below w.heap.size w V) : FateIn V pr nd dirs pc nc cuts :=
  ⟨(h.r.below hb).more hb.size, (h.c.below hb).more hb.size, h.rs, h.cs, h.nr, h.ncl⟩
theorem wd_step {w0 w w' : World} {q p : Nat} {X : Wnd} {S : Drv} {F : Nat → Prop} (hT : Touch F w0 w) (hd : WD w' q p X S (grow (grow F w0 w) w w')) (ht : Touch (grow F w0 w) w w') : WD w' q p X S (grow F w0 w') ∧ Touch F w0 w' :=
  ⟨hd.mono fun k hk => (grow_trans hT.size ht.size k).1 hk, hT.trans ht⟩

set_option maxRecDepth 100000 in
set_option maxHeartbeats 8000000 in
theorem turn_yes (w : World) (x : PPlace) (L : PlLay) (hx : PlaceIn w x L) (nm : List UInt8) (hnm : nm.length ≤ maxLen) (D : Option Addr) (dn dc : Nat) (bs : List UInt8) (hdn : dn = bs.length) (hD : Reads w w.heap.size 1 D dn (bs.map B8)) (hdb : dn ≤ 1099511627776) (call inside : Int) (pr : Option Addr) (nd cr : Nat) (dirs : List Bool) (pc : Option Addr) (nc cc : Nat) (cuts : List Int) (hfate : FateIn w pr nd dirs pc nc cuts) (hno : x.ok = true)
    (hpl : x.plan.length ≤ 8796093021952) (hfl : x.files.length + 5 ≤ 1073741824) (hfb : ∀ f ∈ x.files, f.2.length ≤ 1073741824) :
    Calls Tryz.prog 3 #[.agg (placeCells x L).toArray, .string ⟨nm.toArray⟩, .slice D dn dc, .int .i64 call, .int .i64 inside, .agg #[.slice pr nd cr, .slice pc nc cc]] w fun e w' => e = .returned (.bool true) ∧ Below w.heap.size w w' := by
  have HPI : Hid (∀ V, Below w.heap.size w V → PlaceIn V (x.lit call inside) L) := Lib.hid fun V hV => by
    obtain ⟨⟨vals, hf⟩, h2, h3, h4, h5, h6, h7, h8, h9⟩ := hx
    exact ⟨⟨vals, hf.keep hV⟩, h2, (h3.below hV).more hV.size, h4, h5, h6, h7, fun ad e h0 => Nat.lt_of_lt_of_le (h8 ad e h0) hV.size, h9⟩
  have HNO : Hid ((x.lit call inside).ok = true) := Lib.hid hno
  obtain ⟨hkp, hhl⟩ := place_kept (x.lit call inside) hpl rfl hno hfl hfb
  have HDL : Hid (∀ V, Below w.heap.size w V → Reads V V.heap.size 1 D dn (bs.map B8)) := Lib.hid fun V hV => (hD.below hV).more hV.size
  have HFT : Hid (∀ V, Below w.heap.size w V → FateIn V pr nd dirs pc nc cuts) := Lib.hid fun V hV => hfate.keep hV
  have HDN := Lib.hid hdn
  have HNM := Lib.hid hnm
  obtain ⟨N0, hN0⟩ : ∃ n, n = (x.lit call inside).files.length := ⟨_, rfl⟩
  have hN5 : N0 + 5 ≤ 1073741824 := by rw [hN0]; exact hfl
  obtain ⟨rm, hrm⟩ : ∃ n, n = (x.lit call inside).room.toNat := ⟨_, rfl⟩
  rw [← hN0, ← hrm] at hkp
  obtain ⟨X, hX⟩ : ∃ X, X = (x.lit call inside).wnd := ⟨_, rfl⟩
  obtain ⟨S, hS⟩ : ∃ S, S = (x.lit call inside).drv := ⟨_, rfl⟩
  rw [← hX, ← hS] at hkp
  rw [← hS] at hhl
  obtain ⟨Y, T, xe, hy⟩ : ∃ Y T xe, turnW X S nm bs = (Y, T, xe) := ⟨_, _, _, rfl⟩
  obtain ⟨hkY, hlaw1, hlaw2⟩ := turn_law hkp hN5 hhl hy dirs cuts
  have HKP := Lib.hid hkp
  have HKY := Lib.hid hkY
  have HL1 := Lib.hid hlaw1
  have HL2 := Lib.hid hlaw2
  have HY := Lib.hid hy
  obtain ⟨io, hio⟩ : ∃ n, n = S.image.length := ⟨_, rfl⟩
  obtain ⟨ic, hic⟩ : ∃ n, n = (T.crash dirs cuts).image.length := ⟨_, rfl⟩
  have HIO := Lib.hid hio
  have HIC := Lib.hid hic
  have HX := Lib.hid hX
  have HS := Lib.hid hS
  have hio' : io ≤ N0 := by rw [hio]; exact image_len hkp.drv
  have hic' : ic ≤ N0 + 5 := by rw [hic]; exact image_len (Drv.crash_inv hkY.drv dirs cuts)
  have HYO : Hid Y.Ok := Lib.hid (hkY.wnd.ok (by decide))
  have HMK := Lib.hid (fun V gp (h1 : PlaceIn V (x.lit call inside) L) (h2 : gp < V.heap.size) h3 => make_yes V (x.lit call inside) L h1 HNO.out gp 0 1 h2 (by omega) h3)
  rw [← hX, ← hS] at HMK
  clear hx hno hkp hhl hfate hD hy hkY hlaw1 hlaw2 hio hic hX hS hN0 hrm hdn hnm hpl hfl hfb
  obtain ⟨iB, hiB, hz0, hz1, hz2⟩ := info_parts byteInfo
  have HONE : Hid (∀ u ∈ bs.map B8, u.oneCell' = true) := Lib.hid (by intro u hu; simp only [List.mem_map] at hu; obtain ⟨b, _, rfl⟩ := hu; rfl)
  have HM63 : Hid (0 + dn ≤ maxLen) := Lib.hid (by simp only [maxLen]; omega)
  have HM40 : Hid ((0 + dn) * 1 ≤ 140737488355328) := Lib.hid (by omega)
  obtain ⟨there, room, fs, plan, off, fused, R, C, I⟩ := x
  obtain ⟨fa, fc, pa, plc⟩ := L
  obtain ⟨nf, hnf⟩ : ∃ nf, nf = fs.length := ⟨_, rfl⟩
  obtain ⟨np, hnp⟩ : ∃ np, np = plan.length := ⟨_, rfl⟩
  unfold placeCells
  simp only
  rw [← hnf, ← hnp]
  have HNF := Lib.hid hnf
  have HNP := Lib.hid hnp
  clear hnf hnp
  go_enter Tryz.func3, Tryz.ntmps3
  go_upto_region 1 with fail
  refine wp_world fun V0 hV0 => ?_
  have HB0 : Hid (Below w.heap.size w V0) := Lib.hid (by rw [hV0]; exact ((Below.refl _ _).alloc (Nat.le_refl _) _).alloc (by simp) _)
  have HPB0 : Hid (Blk V0 w.heap.size 25 #[.bool there, .int .i64 room, .slice fa nf fc, .slice pa np plc, .bool off, .bool fused, .int .i64 R, .int .i64 C, .int .i64 I]) := Lib.hid (by rw [hV0]; exact (Blk.new _ _ _).alloc _)
  have HFB0 : Hid (Blk V0 (w.heap.size + 1) 30 #[.slice pr nd cr, .slice pc nc cc]) := Lib.hid (by rw [hV0]; exact blk_last _ _ _ _ (by simp))
  have hs0 : w.heap.size + 2 ≤ V0.heap.size := by rw [hV0]; simp
  clear hV0
  go_upto_region 7 with (go_at_call 8; refine (awake_any V0).mono ?_; rintro e W1 ⟨rfl, hb1⟩; have HB1 := Lib.hid hb1; have hpb1 := HPB0.out.below hb1 HPB0.out.lt; have HPB1 := Lib.hid hpb1; have b5 := hpb1.cell 5; have b6 := hpb1.cell 6; have b7 := hpb1.cell 7; have b8 := hpb1.cell 8; simp at b5 b6 b7 b8; have bz := hpb1.frozen; have bl := hpb1.lt; clear hb1 hpb1)
  refine wp_world fun V2 hV2 => ?_
  have HPB2 : Hid (Blk V2 w.heap.size 25 #[.bool there, .int .i64 room, .slice fa nf fc, .slice pa np plc, .bool off, .bool true, .int .i64 0, .int .i64 call, .int .i64 inside]) := Lib.hid (by rw [hV2]; exact (((HPB1.out.set_ 5 _).set_ 6 _).set_ 7 _).set_ 8 _)
  have HT2 : Hid (Touch (· = w.heap.size) W1 V2) := Lib.hid (by
    rw [hV2]
    iterate 4 (refine Touch.then_ ?_ (Touch.setCell _ _ _ rfl))
    exact Touch.refl _ _)
  have hs1 : V0.heap.size ≤ W1.heap.size := HB1.out.size
  have hs2 : W1.heap.size ≤ V2.heap.size := HT2.out.size
  have HB2 : Hid (Below w.heap.size w V2) := Lib.hid ((HB0.out.trans (HB1.out.mono (by omega))).trans (HT2.out.below (by omega) (fun k e => by omega)))
  have HFB2 : Hid (Blk V2 (w.heap.size + 1) 30 #[.slice pr nd cr, .slice pc nc cc]) := Lib.hid ((HFB0.out.below HB1.out HFB0.out.lt).touch HT2.out (by omega))
  have p0 := HPB2.out.cell 0
  have p1 := HPB2.out.cell 1
  have p2 := HPB2.out.cell 2
  have p3 := HPB2.out.cell 3
  have p4 := HPB2.out.cell 4
  have p5 := HPB2.out.cell 5
  have p6 := HPB2.out.cell 6
  have p7 := HPB2.out.cell 7
  have p8 := HPB2.out.cell 8
  simp at p0 p1 p2 p3 p4 p5 p6 p7 p8
  have pl := HPB2.out.lt
  clear hV2 b5 b6 b7 b8 bz bl
  have HGP : Hid (∀ g, Blk (V2.alloc (.cells #[.bool there, .int .i64 room, .slice fa nf fc, .slice pa np plc, .bool off, .bool true, .int .i64 0, .int .i64 call, .int .i64 inside] 25)) g 25 #[.bool there, .int .i64 room, .slice fa nf fc, .slice pa np plc, .bool off, .bool true, .int .i64 0, .int .i64 call, .int .i64 inside] → ∀ j u, (placeCells ((⟨there, room, fs, plan, off, fused, R, C, I⟩ : PPlace).lit call inside) ⟨fa, fc, pa, plc⟩)[j]? = some u → (V2.alloc (.cells #[.bool there, .int .i64 room, .slice fa nf fc, .slice pa np plc, .bool off, .bool true, .int .i64 0, .int .i64 call, .int .i64 inside] 25)).cell? ⟨g, 0 + j, none⟩ = some u) := Lib.hid fun g hb j u hj => by
    rw [Nat.zero_add, hb.cell j, HNF.out, HNP.out]
    have e : (placeCells ((⟨there, room, fs, plan, off, fused, R, C, I⟩ : PPlace).lit call inside) ⟨fa, fc, pa, plc⟩).toArray = #[.bool there, .int .i64 room, .slice fa fs.length fc, .slice pa plan.length plc, .bool off, .bool true, .int .i64 0, .int .i64 call, .int .i64 inside] := rfl
    rw [← e, List.getElem?_toArray]
    exact hj
  go_upto_region 13 with (first
    | (go_at_call 9; refine (HMK.out _ V2.heap.size (HPI.out _ (HB2.out.alloc HB2.out.size _)) (by simp) (HGP.out _ (Blk.new _ _ _))).mono ?_; rintro e W3 ⟨dg, dgc, wg, wgc, mg, mgc, q, p, mq, mp, Av, rfl, hT3, hcap, hb3⟩; have hw3 := hT3.rows.u; have HT3 := Lib.hid hT3; have HB3 := Lib.hid hb3; unfold bothV; have hwl : wg < W3.heap.size := cell_lt hw3; have hwc := hcap.u; clear hcap hb3 hT3)
    | fail)
  refine wp_world fun V4 hV4 => ?_
  have hb34 : Below W3.heap.size W3 V4 := by rw [hV4]; exact (Below.refl _ _).alloc (Nat.le_refl _) _
  have hs3 : V2.heap.size + 1 ≤ W3.heap.size := by have := HB3.out.size; simpa using this
  have hs34 : W3.heap.size ≤ V4.heap.size := hb34.size
  obtain ⟨F1, F2, hwd, _, _, h1F, _, _, _, _, _⟩ := HT3.out
  have HF1 : Hid (∀ k, F1 k → V2.heap.size + 1 ≤ k ∧ k < W3.heap.size) := Lib.hid fun k hk => by have := h1F k hk; simpa using this
  have HB23 : Hid (Below w.heap.size w V4) := Lib.hid ((HB2.out.alloc HB2.out.size _).trans ((HB3.out.trans (hb34.mono HB3.out.size)).mono (by have := HB2.out.size; simp; omega)))
  have HD4 : Hid (WD V4 q p X S F1) := Lib.hid (WD.below hwd hb34)
  have HFB4 : Hid (Blk V4 (w.heap.size + 1) 30 #[.slice pr nd cr, .slice pc nc cc]) := Lib.hid (((HFB2.out.alloc _).below HB3.out (by simp; omega)).below hb34 (by omega))
  have q04 : V4.cell? ⟨q, 0, none⟩ = some (.pointer (some ⟨p, 0, none⟩)) := WD.head HD4.out
  have ql4 : q < V4.heap.size := cell_lt q04
  clear hV4 hwd h1F hb34 hw3 hwl hwc p0 p1 p2 p3 p4 p5 p6 p7 p8 HT3 HMK HPI HGP
  go_upto_region 14 with (first
    | (go_at_call 11; refine (wimage_any q p X S F1 V4 HD4.out HKP.out.drv (by omega)).mono ?_; rintro e W5 ⟨a5, c5, rfl, hf5, hb5⟩; rw [← HIO.out] at hf5 ⊢; have HF5 := Lib.hid hf5; have HB5 := Lib.hid hb5; clear hf5 hb5)
    | fail)
  have hs5 : V4.heap.size ≤ W5.heap.size := HB5.out.size
  have HB05 : Hid (Below w.heap.size w W5) := Lib.hid (HB23.out.trans (HB5.out.mono (HB23.out.size)))
  have HD5 : Hid (WD W5 q p X S F1) := Lib.hid (WD.below HD4.out HB5.out)
  go_upto_region 16 with (first
    | (at_builtin; go_must (refine wpList_append_any _ (by rfl) (.const (.slice none 0 0)) (.tmp 55) 26 (by rfl) W5.heap.size 5 iB _ 1 1 Tryz.underlying26 hiB hz0 hz1 hz2 rfl (by omega) (.slice none 0 0) 0 [] (by rfl) (World.ownsRow_nil _ _ _ _) _ D dn dc (bs.map B8) (by rfl) (HDL.out W5 HB05.out) HONE.out HM63.out HM40.out (by first | omega | simp) ?_); intro v6 W6 hown6 hg6 hat6; obtain ⟨a6, c6, rfl, hc6⟩ := own_shape hown6; rw [Nat.zero_add, List.nil_append] at hown6; go_must (have HO6 := Lib.hid hown6; have HG6 : Hid (Touch (fun _ => False) W5 W6) := Lib.hid (Touch.of_grown hg6 (fun k hk => (by simp [Value.ownBlock] at hk))); clear hown6 hg6 hat6))
    | (go_at_call 10; refine (write_turn q p X S F1 nm a6 c6 dn bs W6 0 N0 rm HDN.out (HD5.out.keep HG6.out (fun _ _ h => h)) (fun k hk => by have h1 := HF1.out k hk; have h2 := HG6.out.size; omega) HNM.out (fun W hW => ((Reads.of_own HO6.out).touch hW (Nat.le_refl _) (fun ad e hf => by have h1 := HF1.out _ hf; have h2 := (own_ad HO6.out e).1; omega)).more hW.size) (fun ad e => ⟨(own_ad HO6.out e).2, fun hf => by have h1 := HF1.out _ hf; have h2 := (own_ad HO6.out e).1; omega⟩) (by omega) (by omega) HKP.out (by decide) hN5 Y T xe HY.out).mono ?_; rintro e W7 ⟨rfl, hd7, ht7⟩; have HD7 := Lib.hid hd7; have HT7 := Lib.hid ht7; clear hd7 ht7)
    | (go_at_call 12; refine (wrest_any q p Y T _ true W7 HD7.out HYO.out).mono ?_; rintro e W8 ⟨rfl, hd8, ht8⟩; have hst8 := wd_step HT7.out hd8 ht8; have HD8 := Lib.hid hst8.1; have HT8 := Lib.hid hst8.2; have q08 := WD.head hst8.1; have ql8 : q < W8.heap.size := cell_lt q08; clear hd8 ht8 hst8)
    | fail)
  have hs56 : W5.heap.size ≤ W6.heap.size := HG6.out.size
  have hs68 : W6.heap.size ≤ W8.heap.size := HT8.out.size
  have HB06 : Hid (Below w.heap.size w W6) := Lib.hid (HB05.out.trans (HG6.out.below (by have := HB05.out.size; omega) (fun k h => h.elim)))
  have HBT : Hid (∀ W, Touch F1 W6 W → Below w.heap.size w W) := Lib.hid fun W hW => HB06.out.trans (hW.below (by have := HB06.out.size; omega) (fun k hk => by have := HF1.out k hk; omega))
  have HFK : Hid (∀ W, Touch F1 W6 W → W.cell? ⟨w.heap.size + 1, 0, none⟩ = some (.slice pr nd cr) ∧ W.cell? ⟨w.heap.size + 1, 1, none⟩ = some (.slice pc nc cc)) := Lib.hid fun W hW => by
    have h := ((HFB4.out.below HB5.out (by omega)).touch HG6.out (fun h => h)).touch hW (fun hf => by have := HF1.out _ hf; omega)
    exact ⟨h.cell 0, h.cell 1⟩
  have HFO : Hid (∀ W, Touch F1 W6 W → FilesAt W V4.heap.size (.slice a5 io c5) S.image) := Lib.hid fun W hW => (HF5.out.touch HG6.out (fun _ _ _ h => h)).touch hW (fun k h1 _ hf => by have := HF1.out _ hf; omega)
  obtain ⟨f80, f81⟩ := HFK.out W8 HT8.out
  have fl8 : w.heap.size + 1 < W8.heap.size := cell_lt f80
  clear q04 ql4
  go_region_held3 (fun w' => w'.cell? ⟨q, 0, none⟩ = some (.pointer (some ⟨p, 0, none⟩)) ∧ w'.cell? ⟨w.heap.size + 1, 0, none⟩ = some (.slice pr nd cr) ∧ w'.cell? ⟨w.heap.size + 1, 1, none⟩ = some (.slice pc nc cc)) (first | (with_reducible exact HQ9.out) | go_keep) ((first
    | (go_at_call 13; refine (wcrashd_any q p (Y.rest true) T (N0 + 5) _ pr nd cr dirs pc nc cc cuts _ (WD.below HD8.out (below_drew1 (Below.refl _ _))) HKY.out.drv (by omega) (HFT.out _ (below_drew1 (HBT.out _ HT8.out))).r (HFT.out _ (below_drew1 (HBT.out _ HT8.out))).c (HFT.out _ (below_drew1 (HBT.out _ HT8.out))).rs (HFT.out _ (below_drew1 (HBT.out _ HT8.out))).cs (HFT.out _ (below_drew1 (HBT.out _ HT8.out))).nr (HFT.out _ (below_drew1 (HBT.out _ HT8.out))).ncl).mono ?_; rintro e W9 ⟨rfl, hd9, ht9⟩; have hst9 := wd_step HT8.out hd9 ((Touch.of_below (below_drew1 (Below.refl _ W8))).then_ ht9); have HD9 := Lib.hid hst9.1; have HT9 := Lib.hid hst9.2; have HQ9 := Lib.hid (And.intro (WD.head hst9.1) (HFK.out W9 hst9.2)); clear hd9 ht9 hst9)
    | fail))
  all_goals (
    obtain ⟨q09, _, _⟩ := HQ9.out
    clear f80 f81 q08 ql8
    go_wp2_with (first
      | (go_at_call 14; go_loud (refine (wpower_any q p (Y.rest true) (T.crash dirs cuts) _ true W9 HD9.out).mono ?_); rintro e W10 ⟨rfl, hd10, ht10⟩; have hst10 := wd_step HT9.out hd10 ht10; have HD10 := Lib.hid hst10.1; have HT10 := Lib.hid hst10.2; have q010 := WD.head hst10.1; have ql10 : q < W10.heap.size := cell_lt q010; clear hd10 ht10 hst10)
      | (go_at_call 11; go_loud (refine (wimage_any q p _ (T.crash dirs cuts) _ W10 HD10.out (Drv.crash_inv HKY.out.drv dirs cuts) (by omega)).mono ?_); rintro e W11 ⟨a11, c11, rfl, hf11, hb11⟩; rw [← HIC.out] at hf11 ⊢; have HF11 := Lib.hid hf11; have HB11 := Lib.hid hb11; clear hf11 hb11)
      | (go_at_call 15; go_loud (refine (turned_any S.image (T.crash dirs cuts).image V4.heap.size W10.heap.size a5 a11 io ic c5 c11 HIO.out HIC.out W11 ((HFO.out W10 HT10.out).below HB11.out) HF11.out (by omega) (by omega) nm D dn dc bs HDN.out (HDL.out W11 ((HBT.out W10 HT10.out).trans (HB11.out.mono (HBT.out W10 HT10.out).size))) xe (fun k f hk => image_own k f hk) HL1.out HL2.out).mono ?_); rintro e W12 ⟨rfl, n12, hn12⟩; have HN12 := Lib.hid hn12; clear hn12)
      | fail)
    go_ret
    refine ⟨rfl, ?_⟩
    rw [HN12.out]
    exact below_drewN ((HBT.out W10 HT10.out).trans (HB11.out.mono (HBT.out W10 HT10.out).size)) n12)
end Go.Proofs.YtdmcjomcbhdcbaaGreat

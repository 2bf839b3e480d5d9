/- What the laws ask first.; One writing and a loss of power: the steps.; One writing and a loss of power: the walk. -/
import Derived.Test.YtdmcjomcbhdcbaaGreatM23
import Derived.Lib.SmallJoins
namespace Go.Proofs.YtdmcjomcbhdcbaaGreat
open Go.RowKit Go.Maps

def awk1 : Wnd × Drv × Int := awrite Wnd.new (Drv.new 100) [102] [111, 110, 101]
def awk2 := wread awk1.1 (awk1.2.1.read [102])
def awk3 : Wnd × Drv × Int := aremove awk2.1 awk1.2.1 [102]
theorem awk1_ok : awk1.2.2 = 0 := by rfl
theorem awk2_ok : awk2.2.1 = [111, 110, 101] ∧ awk2.2.2 = 0 ∧ awk2.1.calls = 6 := by refine ⟨?_, ?_, ?_⟩ <;> rfl
theorem awk3_ok : awk3.2.2 = 0 := by rfl
theorem awk3_im : size awk3.2.1.now = 0 := by rfl
theorem dnew100 (w : World) : Calls Tryz.prog 32 #[.int .i64 100] w fun e w' => ∃ p, e = .returned (.pointer (some ⟨p, 0, none⟩)) ∧ Drb w' w.heap.size p (Drv.new 100) ∧ Below w.heap.size w w' := by
  refine (new_good 100 w (by decide) (by decide)).mono ?_
  rintro e w' ⟨rfl, rfl⟩
  have hb : Below w.heap.size w (((w.alloc (.map #[] 0)).alloc (.map #[] 0)).alloc (.cells #[.int .i64 100, .int .i64 0, .map (some w.heap.size), .map (some (w.heap.size + 1)), .slice none 0 0] 102)) := (((Below.refl _ _).alloc (Nat.le_refl _) _).alloc (by simp) _).alloc (by simp; omega) _
  exact ⟨_, rfl, (dr_lt ⟨[], dr_new w 100⟩), hb⟩
theorem kept0 : Kept Wnd.new (Drv.new 100) 0 0 100 := ⟨Wnd.Okn.new, Drv.new_inv 100 0 (by decide) (by decide), rfl⟩
theorem kept1 : Kept awk1.1 awk1.2.1 5 5 100 := awrite_kept kept0 [102] [111, 110, 101] (by decide)
theorem kept2 : Kept awk2.1 awk1.2.1 6 6 100 := wread_kept kept1 (awk1.2.1.read [102]) (by decide)
theorem kept2r : Kept (wcall awk2.1 awk1.2.1 false (awk1.2.1.remove [102])).1 (wcall awk2.1 awk1.2.1 false (awk1.2.1.remove [102])).2.1 7 7 100 := wcall_kept kept2 false _ (Drv.remove_inv kept2.drv _ (by decide)) (Drv.remove_keepsRoom _ _) (by decide)
theorem kept3 : awk3.2.1.Inv 8 := by
  have h : awk3 = wcall (wcall awk2.1 awk1.2.1 false (awk1.2.1.remove [102])).1 (wcall awk2.1 awk1.2.1 false (awk1.2.1.remove [102])).2.1 false ((wcall awk2.1 awk1.2.1 false (awk1.2.1.remove [102])).2.1.syncDir, 0) := by
    unfold awk3 aremove
    exact if_neg (by intro h; exact absurd (show (wcall awk2.1 awk1.2.1 false (awk1.2.1.remove [102])).2.2 = 0 from rfl) h.1)
  rw [h]
  exact (wcall_kept kept2r false ((wcall awk2.1 awk1.2.1 false (awk1.2.1.remove [102])).2.1.syncDir, 0) (Drv.syncDir_inv kept2r.drv (by decide)) rfl (by decide)).drv
theorem wcallsd_any (q p : Nat) (X : Wnd) (S : Drv) (F : Nat → Prop) (w : World) (h : WD w q p X S F) : Calls Tryz.prog 26 #[.pointer (some ⟨q, 0, none⟩)] w fun e w' => e = .returned (.int .i64 X.calls) ∧ w = w' := by
  obtain ⟨FW, FD, hA, _⟩ := h
  exact calls_any q _ X FW w hA.wn
theorem WD.head {q p : Nat} {X : Wnd} {S : Drv} {F : Nat → Prop} {w : World} (h : WD w q p X S F) : w.cell? ⟨q, 0, none⟩ = some (.pointer (some ⟨p, 0, none⟩)) := by
  obtain ⟨FW, FD, hA, _⟩ := h
  exact head_cell hA.wn
theorem wimage_any (q p : Nat) (X : Wnd) (S : Drv) (F : Nat → Prop) (w : World) {N : Nat} (h : WD w q p X S F) (hI : S.Inv N) (hN : N ≤ 2199023254000) : Calls Tryz.prog 11 #[.pointer (some ⟨p, 0, none⟩)] w fun e w' => ∃ a c, e = .returned (.slice a S.image.length c) ∧ FilesAt w' w.heap.size (.slice a S.image.length c) S.image ∧ Below w.heap.size w w' := by
  obtain ⟨FW, FD, hA, _⟩ := h
  obtain ⟨addr, hd⟩ := hA.dr
  refine (image_any p S addr FD w hd (hI.small hN) hI.fnow).mono ?_
  rintro e w' ⟨v, rfl, hf, hb⟩
  obtain ⟨a, c, rfl, _⟩ := hf.shape
  exact ⟨a, c, rfl, hf, hb⟩
theorem one_string : (⟨([111, 110, 101] : List UInt8).toArray⟩ : ByteArray) = ⟨#[111, 110, 101]⟩ := rfl
theorem aw_lit (w : World) (h q p : Nat) (hh : h ≤ w.heap.size) (hd : WDb w h q p Wnd.new (Drv.new 100)) :
    Calls Tryz.prog 10 #[.iface 40 (.pointer (some ⟨q, 0, none⟩)), .string ⟨#[102]⟩, .slice (some ⟨w.heap.size, 0, none⟩) 3 3] (w.alloc (.cells #[.int .u8 111, .int .u8 110, .int .u8 101] 5 (3, 4))) fun e w' => e = .returned (.int .i64 0) ∧ WDb w' h q p awk1.1 awk1.2.1 ∧ Below h w w' := by
  obtain ⟨V, hV⟩ : ∃ V, V = w.alloc (.cells #[.int .u8 111, .int .u8 110, .int .u8 101] 5 (3, 4)) := ⟨_, rfl⟩
  have hb : Below w.heap.size w V := by rw [hV]; exact (Below.refl _ _).alloc (Nat.le_refl _) _
  have hs : V.heap.size = w.heap.size + 1 := by rw [hV]; simp
  have hr : Reads V V.heap.size 1 (some ⟨w.heap.size, 0, none⟩) 3 (([111, 110, 101] : List UInt8).map B8) := by
    refine ⟨rfl, fun _ => ⟨_, rfl, by rw [hs]; exact Nat.lt_succ_self _, fun j u hj => ?_⟩⟩
    rw [add_plain, hV, Nat.zero_add, World.cell?_alloc_mark]
    have e : (#[.int .u8 111, .int .u8 110, .int .u8 101] : Array Value) = (([111, 110, 101] : List UInt8).map B8).toArray := rfl
    rw [e, List.getElem?_toArray]
    exact hj
  rw [← hV]
  have hd1 : WD V q p Wnd.new (Drv.new 100) (fun k => h ≤ k ∧ k < w.heap.size) := WD.below hd hb
  have hl : lookE [102] = 0 := by decide
  have hc := awrite_any q p Wnd.new (Drv.new 100) (fun k => h ≤ k ∧ k < w.heap.size) ⟨#[102]⟩ (some ⟨w.heap.size, 0, none⟩) 3 [111, 110, 101] V 0 0 100 hd1 (fun k hk => by omega) (fun W => by
    have := look_any ⟨q, 0, none⟩ [102] W (by decide)
    rw [hl] at this
    exact this) (by decide) (fun W hW => (hr.touch hW (Nat.le_refl _) (fun ad e hf => by injection e with e; subst e; have := hf.2; simp at this)).more hW.size) (fun ad e => by injection e with e; subst e; exact ⟨by show w.heap.size < _; omega, fun hf => by have := hf.2; simp at this⟩) (by decide) (by decide) kept0 (by decide) (by decide) (by decide) awk1.1 awk1.2.1 0 rfl
  refine hc.mono ?_
  rintro e w' ⟨he, h1, h2⟩
  have hs2 := h2.size
  refine ⟨he, h1.mono fun k hk => ?_, (hb.mono hh).trans (h2.below (by omega) fun k hk => hk.1)⟩
  rcases hk with hk | hk
  · omega
  · omega
theorem rd_lit (w : World) (h q p : Nat) (hh : h ≤ w.heap.size) (hd : WDb w h q p awk1.1 awk1.2.1) :
    Calls Tryz.prog 33 #[.pointer (some ⟨q, 0, none⟩), .string ⟨#[102]⟩] w fun e w' => ∃ a c, e = .returned (.tuple #[.slice a 3 c, .int .i64 0]) ∧ (convert 26 9 (.slice a 3 c)).run Tryz.prog w' = .ok (.string ⟨#[111, 110, 101]⟩) w' ∧ WDb w' h q p awk2.1 awk1.2.1 ∧ Below h w w' := by
  refine (wread_any q p awk1.1 awk1.2.1 _ ⟨#[102]⟩ w (by decide) hd (kept1.wnd.ok (by decide)) (kept1.drv.small (by decide))).mono ?_
  rintro e w' ⟨v, rfl, ho, h1, h2⟩
  obtain ⟨e1, e2, e3⟩ := awk2_ok
  have e1' : (wread awk1.1 (awk1.2.1.read (⟨#[102]⟩ : ByteArray).data.toList)).2.1 = [111, 110, 101] := e1
  rw [e1'] at ho
  obtain ⟨a, c, rfl, _⟩ := own_shape ho
  have hs2 := h2.size
  exact ⟨a, c, rfl, conv_any w' w'.heap.size a [111, 110, 101] c (Reads.of_own ho), h1.mono fun k hk => by omega, h2.below hh fun k hk => hk.1⟩
theorem rm_lit (w : World) (h q p : Nat) (hh : h ≤ w.heap.size) (hd : WDb w h q p awk2.1 awk1.2.1) :
    Calls Tryz.prog 16 #[.iface 40 (.pointer (some ⟨q, 0, none⟩)), .string ⟨#[102]⟩] w fun e w' => e = .returned (.int .i64 0) ∧ WDb w' h q p awk3.1 awk3.2.1 ∧ Below h w w' := by
  refine (aremove_any q p awk2.1 awk1.2.1 _ [102] w hd (by decide) (by decide) (kept2.wnd.ok (by decide)) (kept2.drv.small (by decide)) (kept2r.wnd.ok (by decide)) (kept2r.drv.small (by decide))).mono ?_
  rintro e w' ⟨he, h1, h2⟩
  have hs2 := h2.size
  refine ⟨he, h1.mono fun k hk => ?_, h2.below hh fun k hk => hk.1⟩
  rcases hk with hk | hk <;> omega
set_option maxRecDepth 100000 in
set_option maxHeartbeats 4000000 in
theorem awake_any (w : World) : Calls Tryz.prog 8 #[] w fun e w' => e = .returned (.bool true) ∧ Below w.heap.size w w' := by
  have HN := Lib.hid (dnew100 w)
  go_enter Tryz.func8, Tryz.ntmps8
  have hcl : awk2.1.calls = 6 := awk2_ok.2.2
  have HCL := Lib.hid hcl
  have him : awk3.2.1.image.length = 0 := by unfold Drv.image; rw [List.length_map, dnames_length]; exact awk3_im
  have HIM := Lib.hid him
  clear hcl him
  go_wp2_with (first
    | (go_at_call 32; refine HN.out.mono ?_; rintro e w1 ⟨p, rfl, hd1, hb1⟩; have HD1 := Lib.hid hd1; have HB1 := Lib.hid hb1; clear hd1 hb1)
    | (go_at_call 31; refine (wnewb_any w.heap.size p _ w1 HB1.out.size HD1.out).mono ?_; rintro e w2 ⟨q, rfl, hd2, hb2⟩; have HD2 := Lib.hid hd2; have HB2 := Lib.hid (HB1.out.trans (hb2.mono HB1.out.size)); have hcv   := Go.Joins.run_convert_bytes_const_at (P := Tryz.prog) w2 26 5 #[.int .u8 111, .int .u8 110, .int .u8 101] 3 3 w2.heap.size rfl Tryz.underlying26 Tryz.underlying5; clear hd2 hb2)
    | (go_at_call 10; refine (aw_lit w2 w.heap.size q p HB2.out.size HD2.out).mono ?_; rintro e w3 ⟨rfl, hd3, hb3⟩; have HD3 := Lib.hid hd3; have HB3 := Lib.hid (HB2.out.trans hb3); clear hd3 hb3)
    | (go_at_call 33; refine (rd_lit w3 w.heap.size q p HB3.out.size HD3.out).mono ?_; rintro e w4 ⟨a4, c4, rfl, hc4, hd4, hb4⟩; have HD4 := Lib.hid hd4; have HB4 := Lib.hid (HB3.out.trans hb4); clear hd4 hb4)
    | (go_at_call 26; refine (wcallsd_any q p _ _ _ w4 HD4.out).mono ?_; rintro e w' ⟨rfl, rfl⟩; rw [HCL.out])
    | (go_at_call 16; refine (rm_lit w4 w.heap.size q p HB4.out.size HD4.out).mono ?_; rintro e w5 ⟨rfl, hd5, hb5⟩; have q0 := WD.head hd5; have HD5 := Lib.hid hd5; have HB5 := Lib.hid (HB4.out.trans hb5); clear hd5 hb5)
    | (go_at_call 11; refine (wimage_any q p _ _ _ w5 HD5.out kept3 (by decide)).mono ?_; rintro e w6 ⟨a6, c6, rfl, hf6, hb6⟩; rw [HIM.out]; have HB6 := Lib.hid (HB5.out.trans (hb6.mono HB5.out.size)); clear hf6 hb6)
    | fail)
  go_ret
  exact ⟨rfl, HB6.out⟩
end Go.Proofs.YtdmcjomcbhdcbaaGreat
namespace Go.Proofs.YtdmcjomcbhdcbaaGreat
open Go.RowKit Go.Maps

theorem FilesAt.touch {w w' : World} {base : Nat} {v : Value} {fs : List File} {G : Nat → Prop} (h : FilesAt w base v fs) (ht : Touch G w w') (hG : ∀ k, base ≤ k → k < w.heap.size → ¬G k) : FilesAt w' base v fs := by
  obtain ⟨vals, hl, ho, hd⟩ := h
  exact ⟨vals, hl, ownsRow_keep ho fun k hk => ht.block k (ho.lt k hk).2 (hG k (ho.lt k hk).1 (ho.lt k hk).2), fun k f u hf hu => ownsRow_keep (hd k f u hf hu) fun j hj => ht.block j ((hd k f u hf hu).lt j hj).2 (hG j ((hd k f u hf hu).lt j hj).1 ((hd k f u hf hu).lt j hj).2)⟩
/-- A writing, refused ahead of any call or not. -/
theorem write_turn (q p : Nat) (X : Wnd) (S : Drv) (F : Nat → Prop) (nm : List UInt8) (A : Option Addr) (cap n : Nat) (bs : List UInt8) (w : World) (c N r : Nat) (hn : n = bs.length) (hd : WD w q p X S F) (hF : ∀ k, F k → k < w.heap.size) (hnm : nm.length ≤ maxLen)
    (hr : ∀ W, Touch F w W → Reads W W.heap.size 1 A n (bs.map B8)) (hA : ∀ ad, A = some ad → ad.block < w.heap.size ∧ ¬F ad.block) (hcap : n ≤ cap) (hbs : n ≤ 140737488351232)
    (hk : Kept X S c N r) (hc5 : c + 5 ≤ 1152921504606846976) (hNr : (N + 5) ≤ 1073741824) (Y : Wnd) (T : Drv) (x : Int) (hy : turnW X S nm bs = (Y, T, x)) :
    Calls Tryz.prog 10 #[.iface 40 (.pointer (some ⟨q, 0, none⟩)), .string ⟨nm.toArray⟩, .slice A n cap] w fun e w' => e = .returned (.int .i64 x) ∧ WD w' q p Y T (grow F w w') ∧ Touch F w w' := by
  subst hn
  unfold turnW at hy
  by_cases hl : lookE nm = 0
  · rw [if_pos hl] at hy
    exact awrite_any q p X S F ⟨nm.toArray⟩ A cap bs w c N r hd hF (fun W => by
      have := look_any ⟨q, 0, none⟩ nm W hnm
      rw [hl] at this
      exact this) (by show nm.toArray.size ≤ maxLen; simpa using hnm) hr hA hcap hbs hk hc5 (by omega) hNr Y T x (by rw [show (⟨nm.toArray⟩ : ByteArray).data.toList = nm by simp]; exact hy)
  · rw [if_neg hl] at hy
    injection hy with e1 hy
    injection hy with e2 e3
    subst e1 e2 e3
    refine (write_bad ⟨q, 0, none⟩ nm hnm hl A _ cap w).mono ?_
    rintro e w' ⟨he, hb⟩
    exact ⟨he, (WD.below hd hb).mono fun k hk => .inl hk, Touch.of_below hb⟩
theorem wcrashd_any (q p : Nat) (X : Wnd) (S : Drv) (N : Nat) (F : Nat → Prop) (pr : Option Addr) (nd cr : Nat) (dirs : List Bool) (pc : Option Addr) (nc cc : Nat) (cuts : List Int) (w : World) (h : WD w q p X S F) (hI : S.Inv N) (hN : N ≤ 2199023254000)
    (hr : Reads w w.heap.size 1 pr nd (dirs.map boolV)) (hc : Reads w w.heap.size 1 pc nc (cuts.map intV)) (hrs : ∀ ad, pr = some ad → 0 < nd → ad.spot = none) (hcs : ∀ ad, pc = some ad → 0 < nc → ad.spot = none) (hnd : nd ≤ 140737488351232) (hnc : nc ≤ 140737488351232) :
    Calls Tryz.prog 13 #[.pointer (some ⟨p, 0, none⟩), .agg #[.slice pr nd cr, .slice pc nc cc]] w fun e w' => e = .returned (.int .i64 0) ∧ WD w' q p X (S.crash dirs cuts) (grow F w w') ∧ Touch F w w' := by
  obtain ⟨FW, FD, hA, hF⟩ := h
  refine (crash_any p S N FD pr nd cr dirs pc nc cc cuts w hA.dr hI hN hr hc hrs hcs hnd hnc).mono ?_
  rintro e w' ⟨he, h1, ht⟩
  refine ⟨he, ⟨_, _, hA.drive h1 ht, fun k hk => ?_⟩, ht.mono fun k _ hk => hF k (.inr hk)⟩
  rcases hk with hk | hk | hk
  · exact .inl (hF k (.inl hk))
  · exact .inl (hF k (.inr hk))
  · exact .inr hk
/-- The wound of a place. -/
theorem wnd_okn (x : PPlace) (hp : x.plan.length ≤ 8796093021952) (hr : x.round = 0) : x.wnd.Okn 0 := by
  unfold PPlace.wnd
  have h1 : (Wnd.new.arm x.plan).Okn 0 := Wnd.Okn.new.arm x.plan hp
  have h2 : ({ Wnd.new.arm x.plan with away := x.off } : Wnd).Okn 0 := h1.away x.off
  split
  · exact h2.fused x.round x.call x.inside (by rw [hr]; decide)
  · exact h2
theorem place_kept (x : PPlace) (hp : x.plan.length ≤ 8796093021952) (hr : x.round = 0) (hok : x.ok = true) (hf : x.files.length + 5 ≤ 1073741824) (hb : ∀ f ∈ x.files, f.2.length ≤ 1073741824) : Kept x.wnd x.drv 0 x.files.length x.room.toNat ∧ Holds x.drv (fun s y => y = x.drv.shows s) := by
  have hlo : loadOk x.room x.files = true := by
    unfold PPlace.ok at hok
    simp only [Bool.and_eq_true] at hok
    exact hok.2
  unfold loadOk at hlo
  simp only [Bool.and_eq_true, decide_eq_true_eq] at hlo
  obtain ⟨⟨h0, h1⟩, hl⟩ := hlo
  have h := loadK_facts x.files (Drv.new x.room.toNat) 0 (Drv.new_inv _ 0 (by omega) (by omega)) rfl rfl (fun i hi => absurd hi (by simp [Drv.new])) hl hb (by omega)
  rw [Nat.zero_add] at h
  exact ⟨⟨wnd_okn x hp hr, h.1, h.2.2.2.2⟩, holds_plain h.1 h.2.1 h.2.2.1 h.2.2.2.1⟩
end Go.Proofs.YtdmcjomcbhdcbaaGreat
namespace Go.Proofs.YtdmcjomcbhdcbaaGreat
open Go.RowKit Go.Maps

/-- The place, with the fuse of the writing. -/
def PPlace.lit (x : PPlace) (c i : Int) : PPlace := { x with fused := true, round := 0, call := c, inside := i }
theorem cell_lt {w : World} {p : Addr} {u : Value} (h : w.cell? p = some u) : p.block < w.heap.size := by
  rcases Nat.lt_or_ge p.block w.heap.size with h1 | h1
  · exact h1
  · unfold World.cell? at h
    rw [Array.getElem?_eq_none h1] at h
    cases h
/-- A fate, as it is handed in. -/
structure FateIn (w : World) (pr : Option Addr) (nd : Nat) (dirs : List Bool) (pc : Option Addr) (nc : Nat) (cuts : List Int) : Prop where
  r : Reads w w.heap.size 1 pr nd (dirs.map boolV)
  c : Reads w w.heap.size 1 pc nc (cuts.map intV)
  rs : ∀ ad, pr = some ad → 0 < nd → ad.spot = none
  cs : ∀ ad, pc = some ad → 0 < nc → ad.spot = none
  nr : nd ≤ 140737488351232
  ncl : nc ≤ 140737488351232

set_option maxRecDepth 100000 in
set_option maxHeartbeats 8000000 in
theorem turn_no (w : World) (x : PPlace) (L : PlLay) (hx : PlaceIn w x L) (nm : List UInt8) (D : Option Addr) (dn dc : Nat) (call inside : Int) (pr : Option Addr) (nd cr : Nat) (pc : Option Addr) (nc cc : Nat) (hno : x.ok = false) :
    Calls Tryz.prog 3 #[.agg (placeCells x L).toArray, .string ⟨nm.toArray⟩, .slice D dn dc, .int .i64 call, .int .i64 inside, .agg #[.slice pr nd cr, .slice pc nc cc]] w fun e w' => e = .returned (.bool true) ∧ Below w.heap.size w w' := by
  have HPI : Hid (∀ V, Below w.heap.size w V → PlaceIn V (x.lit call inside) L) := Lib.hid fun V hV => by
    obtain ⟨⟨vals, hf⟩, h2, h3, h4, h5, h6, h7, h8, h9⟩ := hx
    exact ⟨⟨vals, hf.keep hV⟩, h2, (h3.below hV).more hV.size, h4, h5, h6, h7, fun ad e h0 => Nat.lt_of_lt_of_le (h8 ad e h0) hV.size, h9⟩
  have HNO : Hid ((x.lit call inside).ok = false) := Lib.hid hno
  clear hx hno
  obtain ⟨there, room, fs, plan, off, fused, R, C, I⟩ := x
  obtain ⟨fa, fc, pa, plc⟩ := L
  obtain ⟨nf, hnf⟩ : ∃ nf, nf = fs.length := ⟨_, rfl⟩
  obtain ⟨np, hnp⟩ : ∃ np, np = plan.length := ⟨_, rfl⟩
  unfold placeCells
  simp only
  rw [← hnf, ← hnp]
  have HNF := Lib.hid hnf
  have HNP := Lib.hid hnp
  clear hnf hnp
  go_enter Tryz.func3, Tryz.ntmps3
  go_upto_region 1 with fail
  refine wp_world fun V0 hV0 => ?_
  have HB0 : Hid (Below w.heap.size w V0) := Lib.hid (by rw [hV0]; exact ((Below.refl _ _).alloc (Nat.le_refl _) _).alloc (by simp) _)
  have HPB0 : Hid (Blk V0 w.heap.size 25 #[.bool there, .int .i64 room, .slice fa nf fc, .slice pa np plc, .bool off, .bool fused, .int .i64 R, .int .i64 C, .int .i64 I]) := Lib.hid (by rw [hV0]; exact (Blk.new _ _ _).alloc _)
  have HFB0 : Hid (Blk V0 (w.heap.size + 1) 30 #[.slice pr nd cr, .slice pc nc cc]) := Lib.hid (by rw [hV0]; exact blk_last _ _ _ _ (by simp))
  have hs0 : w.heap.size + 2 ≤ V0.heap.size := by rw [hV0]; simp
  clear hV0
  go_upto_region 7 with (go_at_call 8; refine (awake_any V0).mono ?_; rintro e W1 ⟨rfl, hb1⟩; have HB1 := Lib.hid hb1; have hpb1 := HPB0.out.below hb1 HPB0.out.lt; have HPB1 := Lib.hid hpb1; have b5 := hpb1.cell 5; have b6 := hpb1.cell 6; have b7 := hpb1.cell 7; have b8 := hpb1.cell 8; simp at b5 b6 b7 b8; have bz := hpb1.frozen; have bl := hpb1.lt; clear hb1 hpb1)
  refine wp_world fun V2 hV2 => ?_
  have HPB2 : Hid (Blk V2 w.heap.size 25 #[.bool there, .int .i64 room, .slice fa nf fc, .slice pa np plc, .bool off, .bool true, .int .i64 0, .int .i64 call, .int .i64 inside]) := Lib.hid (by rw [hV2]; exact (((HPB1.out.set_ 5 _).set_ 6 _).set_ 7 _).set_ 8 _)
  have HT2 : Hid (Touch (· = w.heap.size) W1 V2) := Lib.hid (by
    rw [hV2]
    iterate 4 (refine Touch.then_ ?_ (Touch.setCell _ _ _ rfl))
    exact Touch.refl _ _)
  have hs1 : V0.heap.size ≤ W1.heap.size := HB1.out.size
  have hs2 : W1.heap.size ≤ V2.heap.size := HT2.out.size
  have HB2 : Hid (Below w.heap.size w V2) := Lib.hid ((HB0.out.trans (HB1.out.mono (by omega))).trans (HT2.out.below (by omega) (fun k e => by omega)))
  have HFB2 : Hid (Blk V2 (w.heap.size + 1) 30 #[.slice pr nd cr, .slice pc nc cc]) := Lib.hid ((HFB0.out.below HB1.out HFB0.out.lt).touch HT2.out (by omega))
  have p0 := HPB2.out.cell 0
  have p1 := HPB2.out.cell 1
  have p2 := HPB2.out.cell 2
  have p3 := HPB2.out.cell 3
  have p4 := HPB2.out.cell 4
  have p5 := HPB2.out.cell 5
  have p6 := HPB2.out.cell 6
  have p7 := HPB2.out.cell 7
  have p8 := HPB2.out.cell 8
  simp at p0 p1 p2 p3 p4 p5 p6 p7 p8
  have pl := HPB2.out.lt
  clear hV2 b5 b6 b7 b8 bz bl
  have HGP : Hid (∀ g, Blk (V2.alloc (.cells #[.bool there, .int .i64 room, .slice fa nf fc, .slice pa np plc, .bool off, .bool true, .int .i64 0, .int .i64 call, .int .i64 inside] 25)) g 25 #[.bool there, .int .i64 room, .slice fa nf fc, .slice pa np plc, .bool off, .bool true, .int .i64 0, .int .i64 call, .int .i64 inside] → ∀ j u, (placeCells ((⟨there, room, fs, plan, off, fused, R, C, I⟩ : PPlace).lit call inside) ⟨fa, fc, pa, plc⟩)[j]? = some u → (V2.alloc (.cells #[.bool there, .int .i64 room, .slice fa nf fc, .slice pa np plc, .bool off, .bool true, .int .i64 0, .int .i64 call, .int .i64 inside] 25)).cell? ⟨g, 0 + j, none⟩ = some u) := Lib.hid fun g hb j u hj => by
    rw [Nat.zero_add, hb.cell j, HNF.out, HNP.out]
    have e : (placeCells ((⟨there, room, fs, plan, off, fused, R, C, I⟩ : PPlace).lit call inside) ⟨fa, fc, pa, plc⟩).toArray = #[.bool there, .int .i64 room, .slice fa fs.length fc, .slice pa plan.length plc, .bool off, .bool true, .int .i64 0, .int .i64 call, .int .i64 inside] := rfl
    rw [← e, List.getElem?_toArray]
    exact hj
  go_wp2_with (first
    | (go_at_call 9; refine (make_no _ ((⟨there, room, fs, plan, off, fused, R, C, I⟩ : PPlace).lit call inside) ⟨fa, fc, pa, plc⟩ (HPI.out _ (HB2.out.alloc HB2.out.size _)) HNO.out V2.heap.size 0 1 (by simp) (by omega) (HGP.out _ (Blk.new _ _ _))).mono ?_; rintro e W3 ⟨dg, dgc, wg, wgc, mg, mgc, rfl, _, hw3, _, hcap, hb3⟩; unfold bothV; have hwl : wg < W3.heap.size := cell_lt hw3; have hwc := hcap.u; have HB3 := Lib.hid hb3; clear hcap hb3)
    | (go_at_call 10; refine (write_nil _ D dn dc _).mono ?_; rintro e W4 ⟨rfl, hb4⟩; have HB4 := Lib.hid hb4; clear hb4)
    | fail)
  go_ret
  have h3 : Below w.heap.size w W3 := (HB2.out.alloc HB2.out.size _).trans (HB3.out.mono (by have := HB2.out.size; simp; omega))
  exact ⟨rfl, (h3.alloc h3.size _).trans (HB4.out.mono (by have := h3.size; simp; omega))⟩
end Go.Proofs.YtdmcjomcbhdcbaaGreat

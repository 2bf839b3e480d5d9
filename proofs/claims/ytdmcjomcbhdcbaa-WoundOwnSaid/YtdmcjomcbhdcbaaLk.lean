/- WoundPlain: the walk. -/
import Derived.Test.YtdmcjomcbhdcbaaLj
import Derived.Deep.RegionHeld3
import Derived.IntWalk
namespace Go.Proofs.Ytdmcjomcbhdcbaa
open Go.RowKit Go.Maps

structure ScriptAt (w : World) (B : Nat) (A : Option Addr) (len : Nat) (xs : List PStep) : Prop where
  len : xs.length = len
  get : ∀ k x, xs[k]? = some x → ∃ b off L, A = some ⟨b, off, none⟩ ∧ b < B ∧ w.rangeAt b (off + k * 11) (stepCells x L).toList ∧ StepAt w B L x ∧ x.Fits

theorem rangeAt_far {w w' : World} {b o : Nat} {cs : List Value} (h : w.rangeAt b o cs) (hk : w'.heap[b]? = w.heap[b]?) : w'.rangeAt b o cs :=
  fun j v hv => (World.cell?_of_block hk).trans (h j v hv)
theorem ScriptAt.below {w w' : World} {B : Nat} {A : Option Addr} {len : Nat} {xs : List PStep} (h : ScriptAt w B A len xs) (hb : Below B w w') : ScriptAt w' B A len xs :=
  ⟨h.len, fun k x hx => by
    obtain ⟨b, off, L, e, hlt, hr, hs, hf⟩ := h.get k x hx
    exact ⟨b, off, L, e, hlt, rangeAt_far hr (hb.block b hlt), hs.far fun k hk => hb.block k hk, hf⟩⟩

/-- A wound on its drive, and a second drive beside them, all of it at h or above. -/
def Pair (w : World) (h q p : Nat) (X : Wnd) (S : Drv) (p2 : Nat) (T : Drv) : Prop :=
  ∃ F1 F2, WD w q p X S F1 ∧ Dr w p2 T F2 ∧ (∀ k, F1 k → h ≤ k ∧ k < w.heap.size) ∧ (∀ k, F2 k → h ≤ k ∧ k < w.heap.size) ∧ ∀ k, F1 k → ¬F2 k
theorem Pair.below {w w' : World} {h q p : Nat} {X : Wnd} {S : Drv} {p2 : Nat} {T : Drv} (hp : Pair w h q p X S p2 T) (hb : Below w.heap.size w w') : Pair w' h q p X S p2 T := by
  obtain ⟨F1, F2, h1, h2, l1, l2, hd⟩ := hp
  have := hb.size
  exact ⟨F1, F2, WD.below h1 hb, Dr.below h2 hb, fun k hk => ⟨(l1 k hk).1, by have := (l1 k hk).2; omega⟩, fun k hk => ⟨(l2 k hk).1, by have := (l2 k hk).2; omega⟩, hd⟩
theorem Pair.one {w w' : World} {h q p : Nat} {Y : Wnd} {S' : Drv} {p2 : Nat} {T : Drv} {F1 F2 : Nat → Prop} (h2 : Dr w p2 T F2) (l1 : ∀ k, F1 k → h ≤ k ∧ k < w.heap.size) (l2 : ∀ k, F2 k → h ≤ k ∧ k < w.heap.size) (hd : ∀ k, F1 k → ¬F2 k) (hh : h ≤ w.heap.size)
    (hw : WD w' q p Y S' (grow F1 w w')) (ht : Touch F1 w w') : Pair w' h q p Y S' p2 T ∧ Below h w w' := by
  have := ht.size
  refine ⟨⟨grow F1 w w', F2, hw, h2.keep ht fun k h2 h1 => hd k h1 h2, fun k hk => ?_, fun k hk => ⟨(l2 k hk).1, by have := (l2 k hk).2; omega⟩, fun k hk hk2 => ?_⟩, ht.below hh fun k hk => (l1 k hk).1⟩
  · rcases hk with hk | hk
    · exact ⟨(l1 k hk).1, by have := (l1 k hk).2; omega⟩
    · exact ⟨by omega, hk.2⟩
  · rcases hk with hk | hk
    · exact hd k hk hk2
    · have := (l2 k hk2).2; omega
theorem Pair.two {w w' : World} {h q p : Nat} {X : Wnd} {S : Drv} {p2 : Nat} {T' : Drv} {F1 F2 : Nat → Prop} (h1 : WD w q p X S F1) (l1 : ∀ k, F1 k → h ≤ k ∧ k < w.heap.size) (l2 : ∀ k, F2 k → h ≤ k ∧ k < w.heap.size) (hd : ∀ k, F1 k → ¬F2 k) (hh : h ≤ w.heap.size)
    (hw : Dr w' p2 T' (grow F2 w w')) (ht : Touch F2 w w') : Pair w' h q p X S p2 T' ∧ Below h w w' := by
  have := ht.size
  refine ⟨⟨F1, grow F2 w w', h1.keep ht fun k h1 h2 => hd k h1 h2, hw, fun k hk => ⟨(l1 k hk).1, by have := (l1 k hk).2; omega⟩, fun k hk => ?_, fun k hk hk2 => ?_⟩, ht.below hh fun k hk => (l2 k hk).1⟩
  · rcases hk with hk | hk
    · exact ⟨(l2 k hk).1, by have := (l2 k hk).2; omega⟩
    · exact ⟨by omega, hk.2⟩
  · rcases hk2 with hk2 | hk2
    · exact hd k hk hk2
    · have := (l1 k hk).2; omega
theorem Pair.wd {w : World} {h q p : Nat} {X : Wnd} {S : Drv} {p2 : Nat} {T : Drv} (hp : Pair w h q p X S p2 T) : WD w q p X S fun k => h ≤ k ∧ k < w.heap.size := by
  obtain ⟨F1, F2, h1, _, l1, _⟩ := hp
  exact h1.mono l1
theorem Pair.dr2 {w : World} {h q p : Nat} {X : Wnd} {S : Drv} {p2 : Nat} {T : Drv} (hp : Pair w h q p X S p2 T) : Dr w p2 T fun k => h ≤ k ∧ k < w.heap.size := by
  obtain ⟨F1, F2, _, h2, _, l2, _⟩ := hp
  exact h2.mono l2

theorem FilesAt.touch {w w' : World} {base : Nat} {v : Value} {fs : List File} {G : Nat → Prop} (h : FilesAt w base v fs) (ht : Touch G w w') (hG : ∀ k, G k → k < base) : FilesAt w' base v fs := by
  obtain ⟨vals, hl, ho, hd⟩ := h
  exact ⟨vals, hl, row_touch ho ht hG, fun k f u hf hu => row_touch (hd k f u hf hu) ht hG⟩
theorem SaidAt.touch {w w' : World} {base : Nat} {v : Value} {x : Said} {G : Nat → Prop} (h : SaidAt w base v x) (ht : Touch G w w') (hG : ∀ k, G k → k < base) : SaidAt w' base v x := by
  obtain ⟨d, n, f, e, h1, h2, h3⟩ := h
  exact ⟨d, n, f, e, row_touch h1 ht hG, row_touch h2 ht hG, h3.touch ht hG⟩
theorem plain8_names (S : Drv) (x : PStep) (hS : S.Small) : (plain8 S x).2.names.length ≤ 2199023254000 ∧ (plain8 S x).2.files.length ≤ 2199023254000 := by
  have h := hS.now
  rw [← dnames_length] at h
  unfold plain8
  repeat' (first | exact ⟨Nat.zero_le _, Nat.zero_le _⟩ | exact ⟨h, Nat.zero_le _⟩ | split)

/-- What stands ahead of the calls of a round: the step in block g. -/
structure Ready (W w : World) (h q p : Nat) (X : Wnd) (S : Drv) (p2 k g : Nat) (cs : Array Value) (F1 F2 : Nat → Prop) : Prop where
  wd : WD W q p X S F1
  dr : Dr W p2 S F2
  l1 : ∀ k, F1 k → h ≤ k ∧ k < W.heap.size
  l2 : ∀ k, F2 k → h ≤ k ∧ k < W.heap.size
  no : ∀ k, F1 k → ¬F2 k
  g1 : ¬F1 g
  g2 : ¬F2 g
  blk : Blk W g 69 cs
  snd : X.Sound
  calls : X.calls = k
  round : 0 ≤ X.round ∧ X.round ≤ k
  below : Below h w W
theorem Ready.start {v w : World} {h q p : Nat} {X : Wnd} {S : Drv} {p2 k : Nat} (cs : Array Value) (hp : Pair v h q p X S p2 S) (hs : X.Sound) (hc : X.calls = k) (hr : 0 ≤ X.round ∧ X.round ≤ k) (hb : Below h w v) (hh : h ≤ v.heap.size) :
    ∃ F1 F2, Ready (v.alloc (.cells cs 69)) w h q p X S p2 k v.heap.size cs F1 F2 := by
  obtain ⟨F1, F2, h1, h2, l1, l2, hd⟩ := hp
  have hb1 : Below v.heap.size v (v.alloc (.cells cs 69)) := (Below.refl _ _).alloc (Nat.le_refl _) _
  refine ⟨F1, F2, WD.below h1 hb1, Dr.below h2 hb1, fun k hk => ?_, fun k hk => ?_, hd, fun hf => ?_, fun hf => ?_, Blk.new _ _ _, hs, hc, hr, hb.trans (hb1.mono hh)⟩
  · have := l1 k hk; rw [alloc_size]; exact ⟨this.1, by omega⟩
  · have := l2 k hk; rw [alloc_size]; exact ⟨this.1, by omega⟩
  · exact Nat.lt_irrefl _ (l1 _ hf).2
  · exact Nat.lt_irrefl _ (l2 _ hf).2
theorem Ready.rest {W W' w : World} {h q p : Nat} {X : Wnd} {S : Drv} {p2 k g : Nat} {cs : Array Value} {F1 F2 : Nat → Prop} (hr : Ready W w h q p X S p2 k g cs F1 F2) (hh : h ≤ W.heap.size)
    (hw : WD W' q p (X.rest false) S (grow F1 W W')) (ht : Touch F1 W W') : ∃ F, Ready W' w h q p (X.rest false) S p2 k g cs F F2 := by
  refine ⟨grow F1 W W', ?_⟩
  have hs := ht.size
  have hgl := hr.blk.lt
  exact {
    wd := hw
    dr := hr.dr.keep ht fun k h2 h1 => hr.no k h1 h2
    l1 := fun k hk => by
      rcases hk with hk | hk
      · have := hr.l1 k hk; exact ⟨this.1, by omega⟩
      · exact ⟨by omega, hk.2⟩
    l2 := fun k hk => by have := hr.l2 k hk; exact ⟨this.1, by omega⟩
    no := fun k hk h2 => by
      rcases hk with hk | hk
      · exact hr.no k hk h2
      · have := hr.l2 k h2; omega
    g1 := fun hf => by
      rcases hf with hf | hf
      · exact hr.g1 hf
      · omega
    g2 := hr.g2
    blk := (ht.block g hgl hr.g1).trans hr.blk
    snd := hr.snd.rest
    calls := hr.calls
    round := by show 0 ≤ (0 : Int) ∧ (0 : Int) ≤ k; omega
    below := hr.below.trans (ht.below hh fun k hk => (hr.l1 k hk).1) }

theorem step_cells {W : World} {g : Nat} {x : PStep} {L : SLay} (h : Blk W g 69 (stepCells x L)) : W.cell? ⟨g, 0, none⟩ = some (.int .i64 x.kind) ∧ W.cell? ⟨g, 1, none⟩ = some (.string x.name) ∧ W.cell? ⟨g, 2, none⟩ = some (.string x.to) ∧ W.cell? ⟨g, 3, none⟩ = some (.slice L.pd x.data.length L.cd) ∧ W.cell? ⟨g, 4, none⟩ = some (.int .i64 x.a) ∧ W.cell? ⟨g, 5, none⟩ = some (.int .i64 x.b) ∧ W.cell? ⟨g, 6, none⟩ = some (.int .i64 x.c) ∧ W.cell? ⟨g, 7, none⟩ = some (.bool x.yes) ∧ W.cell? ⟨g, 8, none⟩ = some (.slice L.pp x.plan.length L.cp) ∧ W.cell? ⟨g, 9, none⟩ = some (.slice L.pr x.dirs.length L.cr) ∧ W.cell? ⟨g, 10, none⟩ = some (.slice L.pc x.cuts.length L.cc) :=
  ⟨h.cell 0, h.cell 1, h.cell 2, h.cell 3, h.cell 4, h.cell 5, h.cell 6, h.cell 7, h.cell 8, h.cell 9, h.cell 10⟩

theorem Ready.drew {W w : World} {h q p : Nat} {X : Wnd} {S : Drv} {p2 k g : Nat} {cs : Array Value} {F1 F2 : Nat → Prop} (hr : Ready W w h q p X S p2 k g cs F1 F2) (hh : h ≤ W.heap.size) : Ready W.drew w h q p X S p2 k g cs F1 F2 :=
  have hb : Below W.heap.size W W.drew := below_drewN (Below.refl _ _) 1
  { hr with wd := WD.below hr.wd hb, dr := Dr.below hr.dr hb, below := hr.below.trans (hb.mono hh) }
theorem Ready.hurt {V w w5 : World} {h q p : Nat} {X Y : Wnd} {S T : Drv} {p2 k g : Nat} {cs : Array Value} {F1 F2 : Nat → Prop} (hr : Ready V w h q p X S p2 k g cs F1 F2) (hh : h ≤ V.heap.size)
    (_ : WD w5 q p Y T (grow F1 V w5)) (ht : Touch F1 V w5) : Dr w5 p2 S F2 ∧ (∀ k, F2 k → k < w5.heap.size) ∧ Blk w5 g 69 cs ∧ Below h w w5 := by
  have hs := ht.size
  exact ⟨hr.dr.keep ht fun k h2 h1 => hr.no k h1 h2, fun k hk => by have := hr.l2 k hk; omega, (ht.block g hr.blk.lt hr.g1).trans hr.blk, hr.below.trans (ht.below hh fun k hk => (hr.l1 k hk).1)⟩
theorem Ready.plain {V w w5 w6 : World} {h q p : Nat} {X Y : Wnd} {S T T' : Drv} {p2 k g : Nat} {cs : Array Value} {F1 F2 : Nat → Prop} (hr : Ready V w h q p X S p2 k g cs F1 F2) (hh : h ≤ V.heap.size)
    (hw : WD w5 q p Y T (grow F1 V w5)) (ht : Touch F1 V w5) (hd6 : Dr w6 p2 T' (grow F2 w5 w6)) (ht6 : Touch F2 w5 w6) : Pair w6 h q p Y T p2 T' ∧ Blk w6 g 69 cs ∧ Below h w w6 := by
  obtain ⟨h1, h2, h3, h4⟩ := hr.hurt hh hw ht
  have hs := ht.size
  have hp := Pair.two (F1 := grow F1 V w5) (h := h) hw (fun k hk => by
      rcases hk with hk | hk
      · have := hr.l1 k hk; exact ⟨this.1, by omega⟩
      · exact ⟨by omega, hk.2⟩) (fun k hk => ⟨(hr.l2 k hk).1, h2 k hk⟩) (fun k hk hk2 => by
      rcases hk with hk | hk
      · exact hr.no k hk hk2
      · have := hr.l2 k hk2; omega) (Nat.le_trans hh hs) hd6 ht6
  exact ⟨hp.1, (ht6.block g h3.lt hr.g2).trans h3, h4.trans hp.2⟩
theorem Drv.Inv.good {S : Drv} {N : Nat} (h : S.Inv N) (hN : N ≤ 2199023254000) : S.Good := ⟨h.small hN, h.fnow, h.fkept, h.safe⟩

/-- What stands at the head of a round of WoundPlain. -/
structure PlainAt (w : World) (h q p p2 k : Nat) : Prop where
  ex : ∃ X S, Pair w h q p X S p2 S ∧ X.Sound ∧ X.calls = k ∧ (0 ≤ X.round ∧ X.round ≤ k) ∧ S.Inv k ∧ S.room ≤ 400

theorem stepStruct : ∃ fs, Try.prog.underlying 69 = some (.struct fs) := ⟨_, Try.underlying69⟩
theorem stepSize : (Try.prog.info? 69).map (·.size) = some 11 := by kernel_rfl

set_option maxRecDepth 100000 in
set_option maxHeartbeats 4000000 in
theorem woundPlain_walk (n : Int) (A : Option Addr) (len c : Nat) (xs : List PStep) (w : World) (hx : ScriptAt w w.heap.size A len xs) (hl : len * 168 ≤ 140737488351232) :
    Calls Try.prog 6 #[.int .i64 n, .slice A len c] w fun e w' => e = .returned (.bool true) ∧ Below w.heap.size w w' := by
  have HX := Lib.hid hx
  clear hx
  have hr := roomI_bd n
  obtain ⟨r, hrr⟩ : ∃ r, r = roomI n := ⟨_, rfl⟩
  rw [← hrr] at hr
  have HRR := Lib.hid hrr
  clear hrr
  go_enter Try.func6, Try.ntmps6
  go_wp2_with fail
  refine (room_any n w).mono ?_
  rintro e w' ⟨rfl, rfl⟩
  rw [← HRR.out]
  go_wp2_with fail
  refine (newb_any r _ (by omega) (by omega)).mono ?_
  rintro e w1 ⟨p, rfl, hd1, hb1⟩
  have HD1 := Lib.hid hd1
  have HB1 := Lib.hid hb1
  clear hd1 hb1
  go_wp2_with fail
  refine (room_any n w1).mono ?_
  rintro e w' ⟨rfl, rfl⟩
  rw [← HRR.out]
  go_wp2_with fail
  refine (newb_any r _ (by omega) (by omega)).mono ?_
  rintro e w2 ⟨p2, rfl, hd2, hb2⟩
  have HD2 := Lib.hid hd2
  have HB12 := Lib.hid hb2
  clear hd2 hb2
  go_wp2_with fail
  refine (wnew_any p w2).mono ?_
  rintro e w3 ⟨rfl, hw3, hb3, hs3⟩
  have HP3 : Hid (Pair w3 w.heap.size w2.heap.size p Wnd.new (Drv.new r.toNat) p2 (Drv.new r.toNat)) := Lib.hid (by
    have h1 := HB1.out.size
    have h2 := HB12.out.size
    refine ⟨fun k => k = w2.heap.size ∨ (w.heap.size ≤ k ∧ k < w1.heap.size), fun k => w1.heap.size ≤ k ∧ k < w2.heap.size, ⟨(· = w2.heap.size), fun k => w.heap.size ≤ k ∧ k < w1.heap.size, ⟨hw3, Dr.below (Dr.below HD1.out HB12.out) hb3, fun k hk => by omega, fun k hk => by omega, fun k hk hd => by omega⟩, fun k hk => hk⟩, Dr.below HD2.out hb3, fun k hk => by omega, fun k hk => by omega, fun k hk hd => by omega⟩)
  have HB3 : Hid (Below w.heap.size w w3) := Lib.hid (HB1.out.trans ((HB12.out.mono HB1.out.size).trans (hb3.mono (Nat.le_trans HB1.out.size HB12.out.size))))
  clear hw3 hb3 hs3
  go_wp2_with fail
  refine (known_any w3).mono ?_
  rintro e w4 ⟨rfl, hb4⟩
  have HP4 := Lib.hid (HP3.out.below hb4)
  have HB4 : Hid (Below w.heap.size w w4) := Lib.hid (HB3.out.trans (hb4.mono HB3.out.size))
  clear hb4
  obtain ⟨q, hq⟩ : ∃ q, q = w2.heap.size := ⟨_, rfl⟩
  rw [← hq] at HP4 ⊢
  have HI : Hid (PlainAt w4 w.heap.size q p p2 0) := Lib.hid ⟨_, _, HP4.out, ⟨rfl, rfl, rfl, rfl⟩, rfl, ⟨Int.le_refl _, Int.le_refl _⟩, Drv.new_inv _ _ (by omega) (by omega), by show r.toNat ≤ 400; omega⟩
  clear hq
  go_wp2
  go_loopw [8] (fun s wr => ∃ k : Nat, k ≤ len ∧ s = .int .i64 k ∧ PlainAt wr w.heap.size q p p2 k ∧ Below w.heap.size w wr) (fun s _ => len - (intOf s).toNat)
  case atStart => exact ⟨0, Nat.zero_le _, rfl, HI.out, HB4.out⟩
  case round =>
    obtain ⟨k, hk, rfl, ⟨X, S, hp, hX, hXc, hXr, hSi, hSr⟩, hbr⟩ := hrel
    have HP := Lib.hid hp
    have HXS := Lib.hid hX
    have HXC := Lib.hid hXc
    have HXR := Lib.hid hXr
    have HSI := Lib.hid hSi
    have HSR := Lib.hid hSr
    have HBR := Lib.hid hbr
    have hszr := hbr.size
    clear hp hX hXc hXr hSi hSr hbr
    by_cases hlt : k < len
    · obtain ⟨x, hxk⟩ : ∃ x, xs[k]? = some x := ⟨_, List.getElem?_eq_getElem (by rw [HX.out.len]; exact hlt)⟩
      obtain ⟨b, off, L, rfl, hbl, hra0, hsa, hfi⟩ := HX.out.get k x hxk
      have hra := rangeAt_far hra0 (HBR.out.block b hbl)
      have HRA := Lib.hid hra
      have HSA := Lib.hid hsa
      have HFI := Lib.hid hfi
      have y0 : wr.cell? ⟨b, off + k * 11, none⟩ = some (.int .i64 x.kind) := hra 0 _ rfl
      have y1 : wr.cell? ⟨b, off + k * 11 + 1, none⟩ = some (.string x.name) := hra 1 _ rfl
      have y2 : wr.cell? ⟨b, off + k * 11 + 2, none⟩ = some (.string x.to) := hra 2 _ rfl
      have y3 : wr.cell? ⟨b, off + k * 11 + 3, none⟩ = some (.slice L.pd x.data.length L.cd) := hra 3 _ rfl
      have y4 : wr.cell? ⟨b, off + k * 11 + 4, none⟩ = some (.int .i64 x.a) := hra 4 _ rfl
      have y5 : wr.cell? ⟨b, off + k * 11 + 5, none⟩ = some (.int .i64 x.b) := hra 5 _ rfl
      have y6 : wr.cell? ⟨b, off + k * 11 + 6, none⟩ = some (.int .i64 x.c) := hra 6 _ rfl
      have y7 : wr.cell? ⟨b, off + k * 11 + 7, none⟩ = some (.bool x.yes) := hra 7 _ rfl
      have y8 : wr.cell? ⟨b, off + k * 11 + 8, none⟩ = some (.slice L.pp x.plan.length L.cp) := hra 8 _ rfl
      have y9 : wr.cell? ⟨b, off + k * 11 + 9, none⟩ = some (.slice L.pr x.dirs.length L.cr) := hra 9 _ rfl
      have y10 : wr.cell? ⟨b, off + k * 11 + 10, none⟩ = some (.slice L.pc x.cuts.length L.cc) := hra 10 _ rfl
      clear hra hra0 hsa hfi hxk
      go_wp2_with fail
      refine (call_any x L wr).mono ?_
      rintro e v1 ⟨rfl, hbv⟩
      have z7 : v1.cell? ⟨b, off + k * 11 + 7, none⟩ = some (.bool x.yes) := (hbv.cell (p := ⟨b, _, none⟩) (by show b < wr.heap.size; omega)).trans y7
      have HBV := Lib.hid hbv
      clear hbv y0 y1 y2 y3 y4 y5 y6 y7 y8 y9 y10
      have HPV := Lib.hid (HP.out.below HBV.out)
      have HKD := Lib.hid (stepKind_bd x.kind)
      have HFC : Hid x.call.Fits := Lib.hid HFI.out.call
      have hbv1 : b < v1.heap.size := by have := HBV.out.size; omega
      obtain ⟨xc, hxc⟩ : ∃ xc, xc = x.call := ⟨_, rfl⟩
      rw [← hxc] at HFC ⊢
      have HSC : Hid (∀ W : World, Below w.heap.size w W → StepAt W w.heap.size L xc) := Lib.hid fun W hW => by
        have h1 := HSA.out.far fun k hk => hW.block k hk
        rw [hxc]
        exact { data := h1.data, plan := h1.plan, dirs := h1.dirs, cuts := h1.cuts, cd := h1.cd, cp := h1.cp, cr := h1.cr, cc := h1.cc }
      have HXK : Hid (1 ≤ xc.kind ∧ xc.kind ≤ 8) := Lib.hid (by rw [hxc]; exact HKD.out)
      clear hxc
      unfold stepCells
      obtain ⟨yy, hyy⟩ : ∃ yy, yy = x.yes := ⟨_, rfl⟩
      rw [← hyy] at z7
      clear hyy
      have hkn : k ≤ 2199023254000 := by omega
      have HSM := Lib.hid (HSI.out.small hkn)
      have hszv : w.heap.size ≤ v1.heap.size := Nat.le_trans hszr HBV.out.size
      have HRS := Lib.hid (Ready.start (stepCells xc L) HPV.out HXS.out HXC.out HXR.out (HBR.out.trans (HBV.out.mono hszr)) hszv)
      have HCV : Hid (stepCells xc L = #[.int .i64 xc.kind, .string xc.name, .string xc.to, .slice L.pd xc.data.length L.cd, .int .i64 xc.a, .int .i64 xc.b, .int .i64 xc.c, .bool xc.yes, .slice L.pp xc.plan.length L.cp, .slice L.pr xc.dirs.length L.cr, .slice L.pc xc.cuts.length L.cc]) := Lib.hid rfl
      obtain ⟨g, hg⟩ : ∃ g, g = v1.heap.size := ⟨_, rfl⟩
      have hgs : w.heap.size ≤ g := by omega
      cases yy
      case' false =>
        go_wp2_with fail
        rw [← hg] at HRS ⊢
        rw [← HCV.out]
        obtain ⟨F1, F2, hrd⟩ := HRS.out
        have HRD := Lib.hid hrd
        clear hrd
        refine wp_world fun W hW => ?_
        rw [← hW] at HRD
        obtain ⟨X2, hX2⟩ : ∃ X2, X2 = X := ⟨_, rfl⟩
        rw [← hX2] at HRD
        clear hX2 hW hg HRS
      case' true =>
        go_wp2_with fail
        rw [← hg] at HRS ⊢
        rw [← HCV.out]
        obtain ⟨F0, F2, hrd⟩ := HRS.out
        have HRD0 := Lib.hid hrd
        refine (wrest_any q p X S F0 false _ hrd.wd ⟨⟨by rw [hrd.calls]; omega, by rw [hrd.calls]; omega⟩, ⟨hrd.round.1, by have := hrd.round.2; omega⟩, by rw [hrd.snd.plan]; decide, fun f hf => by rw [hrd.snd.fuse] at hf; cases hf⟩).mono ?_
        rintro e W ⟨rfl, hw5, ht5⟩
        obtain ⟨F1, hrd1⟩ := Ready.rest HRD0.out (by simp; omega) hw5 ht5
        have HRD := Lib.hid hrd1
        obtain ⟨X2, hX2⟩ : ∃ X2, X2 = X.rest false := ⟨_, rfl⟩
        rw [← hX2] at HRD
        clear hX2 hg HRS hrd hw5 ht5 hrd1 HRD0
        go_wp2_with fail
      all_goals
        have hszW : w.heap.size ≤ W.heap.size := HRD.out.below.size
        have HRV := Lib.hid (HRD.out.drew hszW)
        have HOK : Hid X2.Ok := Lib.hid ⟨⟨by rw [HRD.out.calls]; omega, by rw [HRD.out.calls]; omega⟩, ⟨HRD.out.round.1, by have := HRD.out.round.2; omega⟩, by rw [HRD.out.snd.plan]; decide, fun f hf => by rw [HRD.out.snd.fuse] at hf; cases hf⟩
        have kB : Blk W g 69 (stepCells xc L) := HRD.out.blk
        have kB' : Blk W.drew g 69 (stepCells xc L) := HRD.out.blk
        obtain ⟨T, hT⟩ : ∃ T, T = (plain8 S xc).1 := ⟨_, rfl⟩
        have HT := Lib.hid hT
        obtain ⟨sd, hsd⟩ : ∃ sd, sd = (plain8 S xc).2 := ⟨_, rfl⟩
        have HSD := Lib.hid hsd
        have HH : Hid (hurt8 X2 S xc = (X2.count, T, sd)) := Lib.hid (by rw [HRD.out.snd.hurt8 S xc HXK.out, hT, hsd])
        have HPL : Hid (plain8 S xc = (T, sd)) := Lib.hid (by rw [hT, hsd])
        have HNM : Hid (sd.names.length ≤ 2199023254000 ∧ sd.files.length ≤ 2199023254000) := Lib.hid (by rw [hsd]; exact plain8_names S xc HSM.out)
        have HTI : Hid (T.Inv (k + 1) ∧ T.room ≤ 400) := Lib.hid (by
          have hr4 := HSR.out
          have hm := Nat.mul_le_mul (show k + 1 ≤ 2199023254001 by omega) hr4
          rw [hT]; exact ⟨plain8_inv HSI.out xc (by omega), by rw [plain8_room]; exact hr4⟩)
        have HYC : Hid (X2.count.calls = (k : Int) + 1) := Lib.hid (by have := HRD.out.calls; unfold Wnd.count; simp only; rw [this])
        have HYL : Hid (X2.count.lit = false) := Lib.hid (by unfold Wnd.lit; rw [HRD.out.snd.count.fuse])
        have HYD : Hid ((!X2.count.down) = true) := Lib.hid (by rw [HRD.out.snd.count.down]; rfl)
        clear hT hsd
        have hwr : IntKind.i64.wrap ((k : Int) + 1) = (k : Int) + 1 := IntWalk.i64_in _ (by omega)
        go_region_held3 (fun w' => w'.cell? ⟨g, 0, none⟩ = some (.int .i64 xc.kind) ∧ w'.cell? ⟨g, 1, none⟩ = some (.string xc.name) ∧ w'.cell? ⟨g, 2, none⟩ = some (.string xc.to) ∧ w'.cell? ⟨g, 3, none⟩ = some (.slice L.pd xc.data.length L.cd) ∧ w'.cell? ⟨g, 4, none⟩ = some (.int .i64 xc.a) ∧ w'.cell? ⟨g, 5, none⟩ = some (.int .i64 xc.b) ∧ w'.cell? ⟨g, 6, none⟩ = some (.int .i64 xc.c) ∧ w'.cell? ⟨g, 7, none⟩ = some (.bool xc.yes) ∧ w'.cell? ⟨g, 8, none⟩ = some (.slice L.pp xc.plan.length L.cp) ∧ w'.cell? ⟨g, 9, none⟩ = some (.slice L.pr xc.dirs.length L.cr) ∧ w'.cell? ⟨g, 10, none⟩ = some (.slice L.pc xc.cuts.length L.cc)) (first | exact step_cells (by assumption) | go_keep)
          (first
            | (go_at_call 37; rw [← HCV.out]; refine (hurt8_any q p X2 S F1 xc L W.drew w.heap.size HXK.out HFC.out HRV.out.wd (fun j hj => (HRV.out.l1 j hj).2) HOK.out HSM.out hszW (HSC.out _ HRV.out.below)).mono ?_; rintro e w5 ⟨u1, rfl, hs5, hd5, ht5⟩; rw [HH.out] at hs5 hd5; simp only at hs5 hd5; have HS5 := Lib.hid hs5; have HD5 := Lib.hid hd5; have HT5 := Lib.hid ht5; have HR5 := Lib.hid (HRV.out.hurt hszW hd5 ht5); have kB5 : Blk w5 g 69 (stepCells xc L) := HR5.out.2.2.1; clear hs5 hd5 ht5)
            | (go_at_call 41; refine (plain8_any p2 S F2 xc L w5 w.heap.size HXK.out HFC.out HR5.out.1 HR5.out.2.1 HSM.out HR5.out.2.2.2.size (HSC.out _ HR5.out.2.2.2)).mono ?_; rintro e w6 ⟨u2, rfl, hs6, hd6, ht6⟩; rw [HPL.out] at hs6 hd6; simp only at hs6 hd6; have HS56 := Lib.hid (HS5.out.touch ht6 (fun j hj => (HRV.out.l2 j hj).2)); have HS6 := Lib.hid hs6; have HR6 := Lib.hid (HRV.out.plain hszW HD5.out HT5.out hd6 ht6); have kB6 : Blk w6 g 69 (stepCells xc L) := HR6.out.2.1; clear hs6 hd6 ht6)
            | (go_at_call 20; refine (alike_any u1 u2 sd _ _ w6 HS56.out HS6.out HNM.out.1 HNM.out.2).mono ?_; rintro e w7 ⟨rfl, hb7⟩; have HP7 := Lib.hid (HR6.out.1.below hb7); have HB7 : Hid (Below w.heap.size w w7) := Lib.hid (HR6.out.2.2.trans (hb7.mono HR6.out.2.2.size)); have kB7 : Blk w7 g 69 (stepCells xc L) := HR6.out.2.1.below hb7 HR6.out.2.1.lt; clear hb7)
            | (go_at_call 28; refine (wlit_any q p _ _ _ w7 HP7.out.wd).mono ?_; rintro e w' ⟨rfl, rfl⟩; rw [HYL.out])
            | (go_at_call 29; refine (on_any q _ _ _ w7 HP7.out.wd.wn).mono ?_; rintro e w' ⟨rfl, rfl⟩; rw [HYD.out])
            | (go_at_call 27; refine (calls_any q _ _ _ w7 HP7.out.wd.wn).mono ?_; rintro e w' ⟨rfl, rfl⟩; rw [HYC.out]))
        clear hwr
        go_wp2
        go_roundw
        case rel => exact ⟨k + 1, by omega, by go_num, ⟨⟨_, _, HP7.out, HRD.out.snd.count, by rw [HYC.out]; omega, by have := HRD.out.round; unfold Wnd.count; simp only; omega, HTI.out.1, HTI.out.2⟩⟩, HB7.out⟩
        case measure => simp [intOf]; omega
    · have hkl : k = len := by omega
      subst hkl
      go_wp2_with fail
      refine (level_any p p2 S _ _ wr HP.out.wd.dr HP.out.dr2 (HSI.out.good (by omega))).mono ?_
      rintro e w9 ⟨rfl, hb9⟩
      have HB9 : Hid (Below w.heap.size w w9) := Lib.hid (HBR.out.trans (hb9.mono hszr))
      clear hb9
      go_wp2
      go_ret
      exact ⟨rfl, HB9.out⟩
end Go.Proofs.Ytdmcjomcbhdcbaa

/- Worlds of one drive: an act from outside, in both worlds: Pick, and the rows of a world.; Acts from outside, in both worlds: a fuse, offline, a plan.; An act from outside, in both worlds: a plan. -/
import Derived.Test.YtcbebefdbdppdaaGreatM44
import Derived.Test.YtcbebefdbdppdaaGreatM38
namespace Go.Proofs.YtcbebefdbdppdaaGreat
open Go.RowKit Go.Maps
theorem pick_one (k : Int) (w : World) : Calls Tryz.prog 18 #[.int .i64 k, .int .i64 1] w fun e w' => e = .returned (.int .i64 0) ∧ w = w' := by
  have h0 : k.tmod 1 = 0 := by rw [Int.tmod_one]
  go_enter Tryz.func18, Tryz.ntmps18
  go_wp2
  go_ret
  exact ⟨rfl, rfl⟩
structure Rows1 (w : World) (dg wg mg : Nat) (q mq : Nat) : Prop where
  d : w.cell? ⟨dg, 0, none⟩ = some (.iface 36 (.pointer (some ⟨q, 0, none⟩)))
  u : w.cell? ⟨wg, 0, none⟩ = some (.pointer (some ⟨q, 0, none⟩))
  m : w.cell? ⟨mg, 0, none⟩ = some (.pointer (some ⟨mq, 0, none⟩))
  dl : dg < w.heap.size
  ul : wg < w.heap.size
  ml : mg < w.heap.size
def bothV (dg dc wg wc mg mc : Nat) : Value := .agg #[.slice (some ⟨dg, 0, none⟩) 1 dc, .slice (some ⟨wg, 0, none⟩) 1 wc, .slice (some ⟨mg, 0, none⟩) 1 mc]
structure Caps (dc wc mc : Nat) : Prop where
  d : 1 ≤ dc
  u : 1 ≤ wc
  m : 1 ≤ mc
def fr (h : Nat) (Av : Nat → Prop) (k : Nat) : Prop := h ≤ k ∧ ¬Av k
def World1 (w : World) (h : Nat) (Av : Nat → Prop) (dg wg mg q p mq mp : Nat) (X : Wnd) (S : Drv) (Y : Wnd) (T : Drv) : Prop :=
  ∃ F1 F2 : Nat → Prop, WD w q p X S F1 ∧ DK w mq mp Y T F2 ∧ Rows1 w dg wg mg q mq ∧ (∀ k, F1 k → h ≤ k ∧ k < w.heap.size) ∧ (∀ k, F2 k → h ≤ k ∧ k < w.heap.size) ∧ (∀ k, F1 k → ¬F2 k) ∧
    (∀ k, Av k → ¬F1 k ∧ ¬F2 k) ∧ (∀ k, k = dg ∨ k = wg ∨ k = mg → Av k) ∧ ∀ k, Av k → k < w.heap.size
theorem Rows1.keep {w w' : World} {dg wg mg q mq : Nat} {G : Nat → Prop} (h : Rows1 w dg wg mg q mq) (ht : Touch G w w') (hG : ∀ k, k = dg ∨ k = wg ∨ k = mg → ¬G k) : Rows1 w' dg wg mg q mq where
  d := (World.cell?_of_block (ht.block dg h.dl (hG _ (.inl rfl)))).trans h.d
  u := (World.cell?_of_block (ht.block wg h.ul (hG _ (.inr (.inl rfl))))).trans h.u
  m := (World.cell?_of_block (ht.block mg h.ml (hG _ (.inr (.inr rfl))))).trans h.m
  dl := Nat.lt_of_lt_of_le h.dl ht.size
  ul := Nat.lt_of_lt_of_le h.ul ht.size
  ml := Nat.lt_of_lt_of_le h.ml ht.size
section
variable {w w1 : World} {h dg wg mg q p mq mp : Nat} {Av Av' : Nat → Prop} {X X' Y Y' : Wnd} {S S' T T' : Drv}
theorem fr_below (ht : Touch (fr h Av) w w1) (hh : h ≤ w.heap.size) : Below h w w1 := ht.below hh fun _ hk => hk.1
theorem fr_av (ht : Touch (fr h Av) w w1) {k : Nat} (hk : Av k) (hl : k < w.heap.size) : w1.heap[k]? = w.heap[k]? := ht.block k hl fun hf => hf.2 hk
theorem World1.rows (hT : World1 w h Av dg wg mg q p mq mp X S Y T) : Rows1 w dg wg mg q mq := by
  obtain ⟨F1, F2, a, b, r, _⟩ := hT; exact r
theorem World1.avd (hT : World1 w h Av dg wg mg q p mq mp X S Y T) : ∀ k, k = dg ∨ k = wg ∨ k = mg → Av k := by
  obtain ⟨F1, F2, a, b, r, _, _, _, _, h1, _⟩ := hT; exact h1
theorem World1.below (hT : World1 w h Av dg wg mg q p mq mp X S Y T) (hb : Below w.heap.size w w1) : World1 w1 h Av dg wg mg q p mq mp X S Y T := by
  obtain ⟨F1, F2, a, b, r, h1, h2, hno, hr, hd, hl⟩ := hT
  have hs := hb.size
  exact ⟨F1, F2, WD.below a hb, b.below hb, r.keep (Touch.of_below (F := fun _ => False) hb) fun _ _ h => h, fun k hk => by have := h1 k hk; omega, fun k hk => by have := h2 k hk; omega, hno, hr, hd, fun k hk => by have := hl k hk; omega⟩
theorem World1.boxed (hT : World1 w h Av dg wg mg q p mq mp X S Y T) (hb : Below w.heap.size w w1) : World1 w1 h (fun k => Av k ∨ (w.heap.size ≤ k ∧ k < w1.heap.size)) dg wg mg q p mq mp X S Y T := by
  obtain ⟨F1, F2, a, b, r, h1, h2, hno, hr, hd, hl⟩ := hT
  have hs := hb.size
  refine ⟨F1, F2, WD.below a hb, b.below hb, r.keep (Touch.of_below (F := fun _ => False) hb) fun _ _ h => h, fun k hk => by have := h1 k hk; omega, fun k hk => by have := h2 k hk; omega, hno, fun k hk => ?_, fun k hk => .inl (hd k hk), fun k hk => ?_⟩
  · rcases hk with hk | hk
    · exact hr k hk
    · exact ⟨fun hf => by have := h1 k hf; omega, fun hf => by have := h2 k hf; omega⟩
  · rcases hk with hk | hk
    · have := hl k hk; omega
    · exact hk.2
theorem World1.less (hT : World1 w h Av' dg wg mg q p mq mp X S Y T) (hA : ∀ k, Av k → Av' k) (hd : ∀ k, k = dg ∨ k = wg ∨ k = mg → Av k) : World1 w h Av dg wg mg q p mq mp X S Y T := by
  obtain ⟨F1, F2, a, b, r, h1, h2, hno, hr, _, hl⟩ := hT
  exact ⟨F1, F2, a, b, r, h1, h2, hno, fun k hk => hr k (hA k hk), hd, fun k hk => hl k (hA k hk)⟩
theorem fr_mono (ht : Touch (fr h Av') w w1) (hA : ∀ k, Av k → Av' k) : Touch (fr h Av) w w1 := ht.mono fun k _ hk => ⟨hk.1, fun ha => hk.2 (hA k ha)⟩
theorem World1.end_ {W : World} (hT : World1 w1 h Av' dg wg mg q p mq mp X S Y T) (ht : Touch (fr h Av') W w1) (hb : Below w.heap.size w W) (hA : ∀ k, Av k → Av' k) (hd : ∀ k, k = dg ∨ k = wg ∨ k = mg → Av k) :
    World1 w1 h Av dg wg mg q p mq mp X S Y T ∧ Touch (fr h Av) w w1 :=
  ⟨hT.less hA hd, (Touch.of_below hb).then_ (fr_mono ht hA)⟩
theorem World1.on_wound {f : Nat} {ar : Array Value} {Q : Ending → World → Prop} (hT : World1 w h Av dg wg mg q p mq mp X S Y T) (hh : h ≤ w.heap.size)
    (hc : ∀ F, WD w q p X S F → (∀ k, F k → h ≤ k ∧ k < w.heap.size) → (∀ k, Av k → ¬F k) → Calls Tryz.prog f ar w fun e w' => ∃ X' S', WD w' q p X' S' (grow F w w') ∧ Touch F w w' ∧ (World1 w' h Av dg wg mg q p mq mp X' S' Y T → Touch (fr h Av) w w' → Q e w')) : Calls Tryz.prog f ar w Q := by
  obtain ⟨F1, F2, a, b, r, h1, h2, hno, hr, hd, hl⟩ := hT
  refine (hc F1 a h1 fun k hk => (hr k hk).1).mono ?_
  rintro e w' ⟨X', S', hw, ht, hq⟩
  have hs := ht.size
  refine hq ⟨grow F1 w w', F2, hw, b.keep ht fun k hk hf => hno k hf hk, r.keep ht fun k hk => (hr k (hd k hk)).1, fun k hk => ?_, fun k hk => ?_, fun k hk hf => ?_, fun k hk => ⟨fun hg => ?_, (hr k hk).2⟩, hd, fun k hk => ?_⟩ (ht.mono fun k _ hk => ⟨(h1 k hk).1, fun ha => (hr k ha).1 hk⟩)
  · rcases hk with hk | hk
    · have := h1 k hk; omega
    · omega
  · have := h2 k hk; omega
  · rcases hk with hk | hk
    · exact hno k hk hf
    · have := h2 k hf; omega
  · rcases hg with hg | hg
    · exact (hr k hk).1 hg
    · have := hl k hk; omega
  · have := hl k hk; omega
theorem World1.set_disk {F1 F2 : Nat → Prop} (hh : h ≤ w.heap.size) (a : WD w q p X S F1) (r : Rows1 w dg wg mg q mq) (h1 : ∀ k, F1 k → h ≤ k ∧ k < w.heap.size) (h2 : ∀ k, F2 k → h ≤ k ∧ k < w.heap.size) (hno : ∀ k, F1 k → ¬F2 k) (hr : ∀ k, Av k → ¬F1 k ∧ ¬F2 k) (hd : ∀ k, k = dg ∨ k = wg ∨ k = mg → Av k) (hl : ∀ k, Av k → k < w.heap.size)
    (hw : DK w1 mq mp Y' T' (grow F2 w w1)) (ht : Touch F2 w w1) : World1 w1 h Av dg wg mg q p mq mp X S Y' T' ∧ Touch (fr h Av) w w1 := by
  have hs := ht.size
  refine ⟨⟨F1, grow F2 w w1, a.keep ht hno, hw, r.keep ht fun k hk => (hr k (hd k hk)).2, fun k hk => ?_, fun k hk => ?_, fun k hk hf => ?_, fun k hk => ⟨(hr k hk).1, fun hg => ?_⟩, hd, fun k hk => ?_⟩, ht.mono fun k _ hk => ⟨(h2 k hk).1, fun ha => (hr k ha).2 hk⟩⟩
  · have := h1 k hk; omega
  · rcases hk with hk | hk
    · have := h2 k hk; omega
    · omega
  · rcases hf with hf | hf
    · exact hno k hk hf
    · have := h1 k hk; omega
  · rcases hg with hg | hg
    · exact (hr k hk).2 hg
    · have := hl k hk; omega
  · have := hl k hk; omega
end
structure GateIn (w : World) (mq : Nat) (Y : Wnd) (g : GCells) : Prop where
  of : GateOf Y g
  c1 : w.cell? ⟨mq, 1, none⟩ = some (.bool g.d)
  c2 : w.cell? ⟨mq, 2, none⟩ = some (.bool g.a)
  c3 : w.cell? ⟨mq, 3, none⟩ = some (.slice g.pa g.pn g.pc)
  c4 : w.cell? ⟨mq, 4, none⟩ = some (.int .i64 g.k)
  c5 : w.cell? ⟨mq, 5, none⟩ = some (.int .i64 g.r)
  c6 : w.cell? ⟨mq, 6, none⟩ = some (.bool g.laid)
  c7 : w.cell? ⟨mq, 7, none⟩ = some (.int .i64 g.R)
  c8 : w.cell? ⟨mq, 8, none⟩ = some (.int .i64 g.C)
  c9 : w.cell? ⟨mq, 9, none⟩ = some (.int .i64 g.I)
  fz : ∀ i, w.frozen? ⟨mq, i, none⟩ = false
  lt : mq < w.heap.size
def setG (w : World) (mq : Nat) (g : GCells) : World := ((((((((w.setCell ⟨mq, 1, none⟩ (.bool g.d)).setCell ⟨mq, 2, none⟩ (.bool g.a)).setCell ⟨mq, 3, none⟩ (.slice g.pa g.pn g.pc)).setCell ⟨mq, 4, none⟩ (.int .i64 g.k)).setCell ⟨mq, 5, none⟩ (.int .i64 g.r)).setCell ⟨mq, 6, none⟩ (.bool g.laid)).setCell ⟨mq, 7, none⟩ (.int .i64 g.R)).setCell ⟨mq, 8, none⟩ (.int .i64 g.C)).setCell ⟨mq, 9, none⟩ (.int .i64 g.I)
theorem setG_size (w : World) (mq : Nat) (g : GCells) : (setG w mq g).heap.size = w.heap.size := by unfold setG; repeat rw [size_set']
theorem setG_touch (w : World) (mq : Nat) (g : GCells) : Touch (· = mq) w (setG w mq g) := by
  unfold setG
  iterate 9 (refine Touch.then_ ?_ (Touch.setCell _ _ _ rfl))
  exact Touch.refl _ _
theorem dset9 (dv : Value) (g0 g : GCells) : (((((((((dcells dv g0).setIfInBounds 1 (.bool g.d)).setIfInBounds 2 (.bool g.a)).setIfInBounds 3 (.slice g.pa g.pn g.pc)).setIfInBounds 4 (.int .i64 g.k)).setIfInBounds 5 (.int .i64 g.r)).setIfInBounds 6 (.bool g.laid)).setIfInBounds 7 (.int .i64 g.R)).setIfInBounds 8 (.int .i64 g.C)).setIfInBounds 9 (.int .i64 g.I) = dcells dv g := by
  unfold dcells; simp
theorem setG_blk {w : World} {mq : Nat} {dv : Value} {g0 : GCells} (h : Blk w mq 189 (dcells dv g0)) (g : GCells) : Blk (setG w mq g) mq 189 (dcells dv g) := by
  have := ((((((((h.set_ 1 (.bool g.d)).set_ 2 (.bool g.a)).set_ 3 (.slice g.pa g.pn g.pc)).set_ 4 (.int .i64 g.k)).set_ 5 (.int .i64 g.r)).set_ 6 (.bool g.laid)).set_ 7 (.int .i64 g.R)).set_ 8 (.int .i64 g.C)).set_ 9 (.int .i64 g.I)
  rw [dset9] at this
  exact this
theorem World1.gate {w : World} {h dg wg mg q p mq mp : Nat} {Av : Nat → Prop} {X Y : Wnd} {S T : Drv} (hT : World1 w h Av dg wg mg q p mq mp X S Y T) (hh : h ≤ w.heap.size) :
    ∃ g, GateIn w mq Y g ∧ ∀ (w1 : World) (g' : GCells) (Y' : Wnd), Below w.heap.size w w1 → GateOf Y' g' → (w1.ownsRow w.heap.size 214 2 (.slice g'.pa g'.pn g'.pc) g'.pn (planCells Y'.plan) ∨ g'.pa = g.pa ∧ g'.pn = g.pn ∧ g'.pc = g.pc ∧ Y'.plan = Y.plan) →
      World1 (setG w1 mq g') h Av dg wg mg q p mq mp X S Y' T ∧ Touch (fr h Av) w (setG w1 mq g') := by
  obtain ⟨F1, F2, a, b, r, h1, h2, hno, hr, hd, hl⟩ := hT
  obtain ⟨FG, FM, hk, hF⟩ := b
  obtain ⟨g, hg, hq, hpl⟩ := hk.gt
  refine ⟨g, ⟨hg.of, hg.head.cell 1, hg.head.cell 2, hg.head.cell 3, hg.head.cell 4, hg.head.cell 5, hg.head.cell 6, hg.head.cell 7, hg.head.cell 8, hg.head.cell 9, hg.head.frozen, hg.head.lt⟩, fun w1 g' Y' hb hof hrow => ?_⟩
  have hhd := hg.head.below hb hg.head.lt
  have ht : Touch FG w (setG w1 mq g') := (Touch.of_below hb).then_ ((setG_touch w1 mq g').mono fun k _ e => by rw [e]; exact hq)
  have hgt : Gt (setG w1 mq g') mq (.pointer (some ⟨mp, 0, none⟩)) Y' (grow FG w (setG w1 mq g')) := by
    refine ⟨g', ⟨setG_blk hhd g', hof, ?_⟩, .inl hq, fun k e => ?_⟩
    · rcases hrow with hrow | ⟨e1, e2, e3, e4⟩
      · exact ownsRow_base_a (ownsRow_keep hrow fun k e => (setG_touch w1 mq g').block k (hrow.lt k e).2 (fun e2 => own_blk_ne hrow hhd (by decide) (by rw [e, e2]))) (Nat.zero_le _)
      · have := ownsRow_below hg.plan hb
        rw [e1, e2, e3, e4]
        exact ownsRow_keep this fun k e => (setG_touch w1 mq g').block k (this.lt k e).2 (fun e2 => own_blk_ne this hhd (by decide) (by rw [e, e2]))
    · rcases hrow with hrow | ⟨e1, e2, e3, e4⟩
      · exact .inr ⟨(hrow.lt k e).1, by rw [setG_size]; exact (hrow.lt k e).2⟩
      · rw [e1, e2, e3] at e; exact .inl (hpl k e)
  obtain ⟨k1, k2⟩ := hk.gate hF hgt ht
  exact World1.set_disk hh a r h1 h2 hno hr hd hl k1 k2
end Go.Proofs.YtcbebefdbdppdaaGreat
namespace Go.Proofs.YtcbebefdbdppdaaGreat
open Go.RowKit Go.Maps
structure PAct where
  kind : Int
  place : Int
  at_ : Int
  n : Int
  data : List UInt8
  plan : List (Int × Int)
  round : Int
  call : Int
  inside : Int
structure ALay where
  da : Option Addr
  dc : Nat
  pa : Option Addr
  pc : Nat
  fa : Option Addr
  fn : Nat
  fc : Nat
def actCells (x : PAct) (L : ALay) : Array Value := #[.int .i64 x.kind, .int .i64 x.place, .int .i64 x.at_, .int .i64 x.n, .slice L.da x.data.length L.dc, .slice L.pa x.plan.length L.pc, .int .i64 x.round, .int .i64 x.call, .int .i64 x.inside, .slice L.fa L.fn L.fc]
section
variable {w : World} {h dg wg mg q p mq mp : Nat} {Av : Nat → Prop} {X Y : Wnd} {S T : Drv}
theorem fuse1 (hT : World1 w h Av dg wg mg q p mq mp X S Y T) (hh : h ≤ w.heap.size) (R C I : Int) :
    Calls Tryz.prog 35 #[.pointer (some ⟨q, 0, none⟩), .int .i64 R, .int .i64 C, .int .i64 I] w fun e w' => e = .returned (.tuple #[]) ∧ World1 w' h Av dg wg mg q p mq mp (X.setFuse R C I) S Y T ∧ Touch (fr h Av) w w' :=
  hT.on_wound hh fun F hd _ _ => (wfuse_any q p X S F R C I w hd).mono fun e w' ⟨he, a, b⟩ => ⟨_, _, a, b, fun k1 k2 => ⟨he, k1, k2⟩⟩
theorem offline1 (hT : World1 w h Av dg wg mg q p mq mp X S Y T) (hh : h ≤ w.heap.size) (off : Bool) :
    Calls Tryz.prog 36 #[.pointer (some ⟨q, 0, none⟩), .bool off] w fun e w' => e = .returned (.tuple #[]) ∧ World1 w' h Av dg wg mg q p mq mp { X with away := off } S Y T ∧ Touch (fr h Av) w w' :=
  hT.on_wound hh fun F hd _ _ => (woffline_any q p X S F off w hd).mono fun e w' ⟨he, a, b⟩ => ⟨_, _, a, b, fun k1 k2 => ⟨he, k1, k2⟩⟩
theorem arm1 (hT : World1 w h Av dg wg mg q p mq mp X S Y T) (hh : h ≤ w.heap.size) (A : Option Addr) (c : Nat) (l : List (Int × Int)) (hr : Reads w w.heap.size 2 A l.length (planCells l)) (hA : ∀ ad, A = some ad → ad.block < h ∨ Av ad.block) (hn : l.length * 16 ≤ 140737488351232) :
    Calls Tryz.prog 34 #[.pointer (some ⟨q, 0, none⟩), .slice A l.length c] w fun e w' => e = .returned (.tuple #[]) ∧ World1 w' h Av dg wg mg q p mq mp (X.arm l) S Y T ∧ Touch (fr h Av) w w' :=
  hT.on_wound hh fun F hd h1 h2 => (warm_any q p X S F A l.length c l w hd hr (fun _ ad e hf => by
    rcases hA ad e with h3 | h3
    · have := h1 _ hf; omega
    · exact h2 _ h3 hf) hn).mono fun e w' ⟨he, a, b⟩ => ⟨_, _, a, b, fun k1 k2 => ⟨he, k1, k2⟩⟩
end
set_option maxRecDepth 100000 in
set_option maxHeartbeats 8000000 in
theorem do_fuse (w : World) (h dg dc wg wc mg mc q p mq mp : Nat) (Av : Nat → Prop) (X Y : Wnd) (S T : Drv) (hT : World1 w h Av dg wg mg q p mq mp X S Y T) (hh : h ≤ w.heap.size) (hcap : Caps dc wc mc) (x : PAct) (L : ALay) (hk : x.kind = 4) :
    Calls Tryz.prog 53 #[bothV dg dc wg wc mg mc, .agg (actCells x L)] w fun e w' => e = .returned (.tuple #[]) ∧ World1 w' h Av dg wg mg q p mq mp (X.setFuse x.round x.call x.inside) S (Y.setFuse x.round x.call x.inside) T ∧ Touch (fr h Av) w w' := by
  obtain ⟨kind, place, at_, n, data, plan, R, C, I⟩ := x
  obtain ⟨da, dcc, pa, pc, fa, fn, fc⟩ := L
  simp only at hk
  subst hk
  unfold bothV actCells
  simp only
  obtain ⟨hc1, hc2, hc3⟩ := hcap
  have hr := hT.rows
  obtain ⟨r1, r2, r3, l1, l2, l3⟩ := hr
  have hmq0 : mq < w.heap.size := by obtain ⟨_, hg0, _⟩ := hT.gate hh; exact hg0.lt
  have hmqn : mq ≠ w.heap.size + 1 := by omega
  have hmqm : w.heap.size + 1 ≠ mq := by omega
  have HT := Lib.hid hT
  have HWB : Hid (∀ o1 o2, World1 ((w.alloc o1).alloc o2) h (fun k => Av k ∨ (w.heap.size ≤ k ∧ k < w.heap.size + 2)) dg wg mg q p mq mp X S Y T) := Lib.hid fun o1 o2 => by
    have := hT.boxed (w1 := (w.alloc o1).alloc o2) (((Below.refl _ w).alloc (Nat.le_refl _) _).alloc (by simp) _)
    rw [show ((w.alloc o1).alloc o2).heap.size = w.heap.size + 2 by simp] at this; exact this
  have HPK := Lib.hid pick_one
  clear hT
  go_enter Tryz.func53, Tryz.ntmps53
  go_wp2_with (first
    | (go_at_call 18; refine (HPK.out _ _).mono ?_; rintro e w' ⟨rfl, rfl⟩)
    | (go_at_call 35; go_must (refine (fuse1 (HWB.out _ _) (by simp; omega) R C I).mono ?_); rintro e w2 ⟨rfl, h2, t2⟩; have HT2 := Lib.hid h2; have HTT := Lib.hid t2; clear h2 t2))
  have hsz2 : w.heap.size + 2 ≤ w2.heap.size := by have := HTT.out.size; simpa using this
  have HAC : Hid (Blk w2 (w.heap.size + 1) 98 #[.int .i64 4, .int .i64 place, .int .i64 at_, .int .i64 n, .slice da data.length dcc, .slice pa plan.length pc, .int .i64 R, .int .i64 C, .int .i64 I, .slice fa fn fc]) := Lib.hid ((fr_av HTT.out (k := w.heap.size + 1) (.inr (by omega)) (by simp)).trans (blk_last _ _ _ _ (by simp)))
  have a6 : w2.cell? ⟨w.heap.size + 1, 6, none⟩ = some (.int .i64 R) := HAC.out.cell 6
  have a7 : w2.cell? ⟨w.heap.size + 1, 7, none⟩ = some (.int .i64 C) := HAC.out.cell 7
  have a8 : w2.cell? ⟨w.heap.size + 1, 8, none⟩ = some (.int .i64 I) := HAC.out.cell 8
  obtain ⟨g, hg, hgo⟩ := HT2.out.gate (by omega)
  have HGO := Lib.hid hgo
  obtain ⟨gd, ga, gpa, gpn, gpc, gk, gr, gl, gR, gC, gI⟩ := g
  have HGI := Lib.hid hg
  obtain ⟨gof, c1, c2, c3, c4, c5, c6, c7, c8, c9, gf, hmq⟩ := hg
  simp only at c1 c2 c3 c4 c5 c6 c7 c8 c9
  have HGF := Lib.hid gof
  clear hgo gof r1 r2 r3
  refine wp_region_held_drew (S := (fun w' => w'.cell? ⟨w.heap.size + 1, 6, none⟩ = some (.int .i64 R) ∧ w'.cell? ⟨w.heap.size + 1, 7, none⟩ = some (.int .i64 C) ∧ w'.cell? ⟨w.heap.size + 1, 8, none⟩ = some (.int .i64 I))) (by kernel_rfl) ?_ (fun hHeld => ?_)
  · ((try dsimp only); (first | (with_reducible exact HSK.out) | go_keep))
  refine hT (v := ?_) 0 rfl (by assumption) ?_ ?_
  rotate_left
  · (intro wS hSw; (try dsimp only at hSw); go_simp; try with_reducible rfl)
  try simp only [Act.put, List.setIfInBounds_toArray]
  refine hT (v := ?_) 1 rfl (by assumption) ?_ ?_
  rotate_left
  · (intro wS hSw; (try dsimp only at hSw); go_simp; try with_reducible rfl)
  try simp only [Act.put]
  refine hT (v := ?_) 2 rfl (by assumption) ?_ ?_
  rotate_left
  · (intro wS hSw; (try dsimp only at hSw); go_simp; try with_reducible rfl)
  try simp only [Act.put]
  refine hT (v := ?_) 3 rfl (by assumption) ?_ ?_
  rotate_left
  · (intro wS hSw; (try dsimp only at hSw); go_simp; try with_reducible rfl)
  try simp only [Act.put]
  refine hT (v := ?_) 5 rfl (by assumption) ?_ ?_
  rotate_left
  · (intro wS hSw; (try dsimp only at hSw); go_simp; try with_reducible rfl)
  try simp only [Act.put]
  refine hT (v := ?_) 6 rfl (by assumption) ?_ ?_
  rotate_left
  · (intro wS hSw; (try dsimp only at hSw); go_simp; try with_reducible rfl)
  try simp only [Act.put]
  refine hT (v := ?_) 7 rfl (by assumption) ?_ ?_
  rotate_left
  · (intro wS hSw; (try dsimp only at hSw); go_simp; try with_reducible rfl)
  try simp only [Act.put]
  refine hT (v := ?_) 8 rfl (by assumption) ?_ ?_
  rotate_left
  · (intro wS hSw; (try dsimp only at hSw); go_simp; try with_reducible rfl)
  try simp only [Act.put]
  refine hT (v := ?_) 9 rfl (by assumption) ?_ ?_
  rotate_left
  · (intro wS hSw; (try dsimp only at hSw); go_simp; try with_reducible rfl)
  try simp only [Act.put]
  refine hT (v := ?_) 10 rfl (by assumption) ?_ ?_
  rotate_left
  · (intro wS hSw; (try dsimp only at hSw); go_simp; try with_reducible rfl)
  try simp only [Act.put]
  refine wpAnyH_ready (rs := [4]) (by kernel_rfl) (by simp) (AllReadyH.cons (o := _) rfl (fun K hK => ?b1y1x4) AllReadyH.nil)
  go_simp
  refine hK.out _ _ ?_ (fun hHeld => ?_)
  · ((try dsimp only); (first | (with_reducible exact HSK.out) | go_keep))
  clear hK K; try simp only [Act.put, List.setIfInBounds_toArray, List.set_cons_zero, List.set_cons_succ]
  refine wpAnyH_ready (rs := [11]) (by kernel_rfl) (by simp) (AllReadyH.cons (o := _) rfl (fun K hK => ?b1y2x11) AllReadyH.nil)
  go_simp; go_at_call 96; refine (gfuse_any ⟨gd, ga, gpa, gpn, gpc, gk, gr, gl, gR, gC, gI⟩ R C I _).mono ?_; rintro e w3 ⟨he, hb3'⟩; simp only [gcells] at he; subst he; have hb3 : Below w2.heap.size w2 w3 := ⟨hb3'.os, hb3'.tape, hb3'.output, hb3'.size, hb3'.block⟩; have HB3 := Lib.hid hb3; have d1 := (hb3.cell (p := ⟨mq, 1, none⟩) hmq).trans HGI.out.c1; have d2 := (hb3.cell (p := ⟨mq, 2, none⟩) hmq).trans HGI.out.c2; have d3 := (hb3.cell (p := ⟨mq, 3, none⟩) hmq).trans HGI.out.c3; have d4 := (hb3.cell (p := ⟨mq, 4, none⟩) hmq).trans HGI.out.c4; have d5 := (hb3.cell (p := ⟨mq, 5, none⟩) hmq).trans HGI.out.c5; have d6 := (hb3.cell (p := ⟨mq, 6, none⟩) hmq).trans HGI.out.c6; have d7 := (hb3.cell (p := ⟨mq, 7, none⟩) hmq).trans HGI.out.c7; have d8 := (hb3.cell (p := ⟨mq, 8, none⟩) hmq).trans HGI.out.c8; have d9 := (hb3.cell (p := ⟨mq, 9, none⟩) hmq).trans HGI.out.c9; have df : ∀ i, w3.frozen? ⟨mq, i, none⟩ = false := (fun i => (hb3.frozen (p := ⟨mq, i, none⟩) hmq).trans (HGI.out.fz i)); have hmq3 : mq < w3.heap.size := Nat.lt_of_lt_of_le hmq hb3.size; have HSK : Hid (w3.cell? ⟨w.heap.size + 1, 6, none⟩ = some (.int .i64 R) ∧ w3.cell? ⟨w.heap.size + 1, 7, none⟩ = some (.int .i64 C) ∧ w3.cell? ⟨w.heap.size + 1, 8, none⟩ = some (.int .i64 I)) := Lib.hid ⟨(hb3.cell (p := ⟨w.heap.size + 1, 6, none⟩) (by show w.heap.size + 1 < _; omega)).trans a6, (hb3.cell (p := ⟨w.heap.size + 1, 7, none⟩) (by show w.heap.size + 1 < _; omega)).trans a7, (hb3.cell (p := ⟨w.heap.size + 1, 8, none⟩) (by show w.heap.size + 1 < _; omega)).trans a8⟩; clear hb3 hb3'
  refine hK.out _ _ ?_ (fun hHeld => ?_)
  · ((try dsimp only); (first | (with_reducible exact HSK.out) | go_keep))
  clear hK K; try simp only [Act.put, List.setIfInBounds_toArray, List.set_cons_zero, List.set_cons_succ]
  refine hT (v := ?_) 12 rfl (by assumption) ?_ ?_
  rotate_left
  · (intro wS hSw; (try dsimp only at hSw); go_simp; try with_reducible rfl)
  try simp only [Act.put, List.setIfInBounds_toArray]
  refine hT (v := ?_) 13 rfl (by assumption) ?_ ?_
  rotate_left
  · (intro wS hSw; (try dsimp only at hSw); go_simp; try with_reducible rfl)
  try simp only [Act.put]
  refine wpAnyH_ready (rs := [14]) (by kernel_rfl) (by simp) (AllReadyH.cons (o := _) rfl (fun K hK => ?b1y3x14) AllReadyH.nil)
  go_simp
  refine hK.out _ _ ?_ (fun hHeld => ?_)
  · ((try dsimp only); (first | (with_reducible exact HSK.out) | go_keep))
  clear hK K; try simp only [Act.put, List.setIfInBounds_toArray, List.set_cons_zero, List.set_cons_succ]
  refine wpAnyH_done (by kernel_rfl) ?_ _
  all_goals
    refine exit_world fun V hV => ?_
    have HEND : Hid (World1 V h Av dg wg mg q p mq mp (X.setFuse R C I) S (Y.setFuse R C I) T ∧ Touch (fr h Av) w V) := Lib.hid (by
      have h5 := HGO.out w3 ⟨gd, ga, gpa, gpn, gpc, gk, gr, decide (0 ≤ R), R, C, I⟩ (Y.setFuse R C I) HB3.out (HGF.out.fuse R C I) (.inr ⟨rfl, rfl, rfl, rfl⟩)
      have e : V = setG w3 mq ⟨gd, ga, gpa, gpn, gpc, gk, gr, decide (0 ≤ R), R, C, I⟩ := by rw [hV]; rfl
      rw [← e] at h5
      exact World1.end_ h5.1 (HTT.out.then_ h5.2) (((Below.refl _ w).alloc (Nat.le_refl _) _).alloc (by simp) _) (fun k hk => .inl hk) HT.out.avd)
    clear hV
    go_wp2
    go_end0
    exact ⟨rfl, HEND.out.1, HEND.out.2⟩
set_option maxRecDepth 100000 in
set_option maxHeartbeats 8000000 in
theorem do_offline (w : World) (h dg dc wg wc mg mc q p mq mp : Nat) (Av : Nat → Prop) (X Y : Wnd) (S T : Drv) (hT : World1 w h Av dg wg mg q p mq mp X S Y T) (hh : h ≤ w.heap.size) (hcap : Caps dc wc mc) (x : PAct) (L : ALay) (hk : x.kind = 2) :
    Calls Tryz.prog 53 #[bothV dg dc wg wc mg mc, .agg (actCells x L)] w fun e w' => e = .returned (.tuple #[]) ∧ World1 w' h Av dg wg mg q p mq mp { X with away := true } S { Y with away := true } T ∧ Touch (fr h Av) w w' := by
  obtain ⟨kind, place, at_, n, data, plan, R, C, I⟩ := x
  obtain ⟨da, dcc, pa, pc, fa, fn, fc⟩ := L
  simp only at hk
  subst hk
  unfold bothV actCells
  simp only
  obtain ⟨hc1, hc2, hc3⟩ := hcap
  have hr := hT.rows
  obtain ⟨r1, r2, r3, l1, l2, l3⟩ := hr
  have hmq0 : mq < w.heap.size := by obtain ⟨_, hg0, _⟩ := hT.gate hh; exact hg0.lt
  have hmqn : mq ≠ w.heap.size + 1 := by omega
  have hmqm : w.heap.size + 1 ≠ mq := by omega
  have HT := Lib.hid hT
  have HWB : Hid (∀ o1 o2, World1 ((w.alloc o1).alloc o2) h (fun k => Av k ∨ (w.heap.size ≤ k ∧ k < w.heap.size + 2)) dg wg mg q p mq mp X S Y T) := Lib.hid fun o1 o2 => by
    have := hT.boxed (w1 := (w.alloc o1).alloc o2) (((Below.refl _ w).alloc (Nat.le_refl _) _).alloc (by simp) _)
    rw [show ((w.alloc o1).alloc o2).heap.size = w.heap.size + 2 by simp] at this; exact this
  have HPK := Lib.hid pick_one
  clear hT
  go_enter Tryz.func53, Tryz.ntmps53
  go_wp2_with (first
    | (go_at_call 18; refine (HPK.out _ _).mono ?_; rintro e w' ⟨rfl, rfl⟩)
    | (go_at_call 36; go_must (refine (offline1 (HWB.out _ _) (by simp; omega) true).mono ?_); rintro e w2 ⟨rfl, h2, t2⟩; have HT2 := Lib.hid h2; have HTT := Lib.hid t2; clear h2 t2))
  have hsz2 : w.heap.size + 2 ≤ w2.heap.size := by have := HTT.out.size; simpa using this
  have HAC : Hid (Blk w2 (w.heap.size + 1) 98 #[.int .i64 2, .int .i64 place, .int .i64 at_, .int .i64 n, .slice da data.length dcc, .slice pa plan.length pc, .int .i64 R, .int .i64 C, .int .i64 I, .slice fa fn fc]) := Lib.hid ((fr_av HTT.out (k := w.heap.size + 1) (.inr (by omega)) (by simp)).trans (blk_last _ _ _ _ (by simp)))
  have a0 : w2.cell? ⟨w.heap.size + 1, 0, none⟩ = some (.int .i64 2) := HAC.out.cell 0
  obtain ⟨g, hg, hgo⟩ := HT2.out.gate (by omega)
  have HGO := Lib.hid hgo
  obtain ⟨gd, ga, gpa, gpn, gpc, gk, gr, gl, gR, gC, gI⟩ := g
  have HGI := Lib.hid hg
  obtain ⟨gof, c1, c2, c3, c4, c5, c6, c7, c8, c9, gf, hmq⟩ := hg
  simp only at c1 c2 c3 c4 c5 c6 c7 c8 c9
  have HGF := Lib.hid gof
  clear hgo gof r1 r2 r3
  refine wp_region_held_drew (S := (fun w' => w'.cell? ⟨w.heap.size + 1, 0, none⟩ = some (.int .i64 2))) (by kernel_rfl) ?_ (fun hHeld => ?_)
  · ((try dsimp only); (first | (with_reducible exact HSK.out) | go_keep))
  refine hT (v := ?_) 0 rfl (by assumption) ?_ ?_
  rotate_left
  · (intro wS hSw; (try dsimp only at hSw); go_simp; try with_reducible rfl)
  try simp only [Act.put, List.setIfInBounds_toArray]
  refine hT (v := ?_) 1 rfl (by assumption) ?_ ?_
  rotate_left
  · (intro wS hSw; (try dsimp only at hSw); go_simp; try with_reducible rfl)
  try simp only [Act.put]
  refine hT (v := ?_) 2 rfl (by assumption) ?_ ?_
  rotate_left
  · (intro wS hSw; (try dsimp only at hSw); go_simp; try with_reducible rfl)
  try simp only [Act.put]
  refine hT (v := ?_) 3 rfl (by assumption) ?_ ?_
  rotate_left
  · (intro wS hSw; (try dsimp only at hSw); go_simp; try with_reducible rfl)
  try simp only [Act.put]
  refine hT (v := ?_) 5 rfl (by assumption) ?_ ?_
  rotate_left
  · (intro wS hSw; (try dsimp only at hSw); go_simp; try with_reducible rfl)
  try simp only [Act.put]
  refine hT (v := ?_) 6 rfl (by assumption) ?_ ?_
  rotate_left
  · (intro wS hSw; (try dsimp only at hSw); go_simp; try with_reducible rfl)
  try simp only [Act.put]
  refine hT (v := ?_) 7 rfl (by assumption) ?_ ?_
  rotate_left
  · (intro wS hSw; (try dsimp only at hSw); go_simp; try with_reducible rfl)
  try simp only [Act.put]
  refine wpAnyH_ready (rs := [4]) (by kernel_rfl) (by simp) (AllReadyH.cons (o := _) rfl (fun K hK => ?b2y1x4) AllReadyH.nil)
  go_simp
  refine hK.out _ _ ?_ (fun hHeld => ?_)
  · ((try dsimp only); (first | (with_reducible exact HSK.out) | go_keep))
  clear hK K; try simp only [Act.put, List.setIfInBounds_toArray, List.set_cons_zero, List.set_cons_succ]
  refine wpAnyH_ready (rs := [8]) (by kernel_rfl) (by simp) (AllReadyH.cons (o := _) rfl (fun K hK => ?b2y2x8) AllReadyH.nil)
  go_simp; go_at_call 95; refine (goffline_any ⟨gd, ga, gpa, gpn, gpc, gk, gr, gl, gR, gC, gI⟩ true _).mono ?_; rintro e w3 ⟨he, hb3'⟩; simp only [gcells] at he; subst he; have hb3 : Below w2.heap.size w2 w3 := ⟨hb3'.os, hb3'.tape, hb3'.output, hb3'.size, hb3'.block⟩; have HB3 := Lib.hid hb3; have d1 := (hb3.cell (p := ⟨mq, 1, none⟩) hmq).trans HGI.out.c1; have d2 := (hb3.cell (p := ⟨mq, 2, none⟩) hmq).trans HGI.out.c2; have d3 := (hb3.cell (p := ⟨mq, 3, none⟩) hmq).trans HGI.out.c3; have d4 := (hb3.cell (p := ⟨mq, 4, none⟩) hmq).trans HGI.out.c4; have d5 := (hb3.cell (p := ⟨mq, 5, none⟩) hmq).trans HGI.out.c5; have d6 := (hb3.cell (p := ⟨mq, 6, none⟩) hmq).trans HGI.out.c6; have d7 := (hb3.cell (p := ⟨mq, 7, none⟩) hmq).trans HGI.out.c7; have d8 := (hb3.cell (p := ⟨mq, 8, none⟩) hmq).trans HGI.out.c8; have d9 := (hb3.cell (p := ⟨mq, 9, none⟩) hmq).trans HGI.out.c9; have df : ∀ i, w3.frozen? ⟨mq, i, none⟩ = false := (fun i => (hb3.frozen (p := ⟨mq, i, none⟩) hmq).trans (HGI.out.fz i)); have hmq3 : mq < w3.heap.size := Nat.lt_of_lt_of_le hmq hb3.size; have HSK : Hid (w3.cell? ⟨w.heap.size + 1, 0, none⟩ = some (.int .i64 2)) := Lib.hid ((hb3.cell (p := ⟨w.heap.size + 1, 0, none⟩) (by show w.heap.size + 1 < _; omega)).trans a0); clear hb3 hb3'
  refine hK.out _ _ ?_ (fun hHeld => ?_)
  · ((try dsimp only); (first | (with_reducible exact HSK.out) | go_keep))
  clear hK K; try simp only [Act.put, List.setIfInBounds_toArray, List.set_cons_zero, List.set_cons_succ]
  refine hT (v := ?_) 9 rfl (by assumption) ?_ ?_
  rotate_left
  · (intro wS hSw; (try dsimp only at hSw); go_simp; try with_reducible rfl)
  try simp only [Act.put, List.setIfInBounds_toArray]
  refine hT (v := ?_) 10 rfl (by assumption) ?_ ?_
  rotate_left
  · (intro wS hSw; (try dsimp only at hSw); go_simp; try with_reducible rfl)
  try simp only [Act.put]
  refine wpAnyH_ready (rs := [11]) (by kernel_rfl) (by simp) (AllReadyH.cons (o := _) rfl (fun K hK => ?b2y3x11) AllReadyH.nil)
  go_simp
  refine hK.out _ _ ?_ (fun hHeld => ?_)
  · ((try dsimp only); (first | (with_reducible exact HSK.out) | go_keep))
  clear hK K; try simp only [Act.put, List.setIfInBounds_toArray, List.set_cons_zero, List.set_cons_succ]
  refine wpAnyH_done (by kernel_rfl) ?_ _
  all_goals
    refine exit_world fun V hV => ?_
    have HEND : Hid (World1 V h Av dg wg mg q p mq mp { X with away := true } S { Y with away := true } T ∧ Touch (fr h Av) w V) := Lib.hid (by
      have h5 := HGO.out w3 ⟨gd, true, gpa, gpn, gpc, gk, gr, gl, gR, gC, gI⟩ { Y with away := true } HB3.out (HGF.out.offline true) (.inr ⟨rfl, rfl, rfl, rfl⟩)
      have e : V = setG w3 mq ⟨gd, true, gpa, gpn, gpc, gk, gr, gl, gR, gC, gI⟩ := by rw [hV]; rfl
      rw [← e] at h5
      exact World1.end_ h5.1 (HTT.out.then_ h5.2) (((Below.refl _ w).alloc (Nat.le_refl _) _).alloc (by simp) _) (fun k hk => .inl hk) HT.out.avd)
    clear hV
    go_wp2
    go_end0
    exact ⟨rfl, HEND.out.1, HEND.out.2⟩
end Go.Proofs.YtcbebefdbdppdaaGreat
namespace Go.Proofs.YtcbebefdbdppdaaGreat
open Go.RowKit Go.Maps
theorem Reads.touch0 {w w' : World} {B size n : Nat} {A : Option Addr} {xs : List Value} {F : Nat → Prop} (h : Reads w B size A n xs) (ht : Touch F w w') (hB : B ≤ w.heap.size) (hA : ∀ ad, A = some ad → 0 < n → ¬F ad.block) : Reads w' B size A n xs := by
  refine ⟨h.1, fun hp => ?_⟩
  exact (h.touch ht hB fun ad e => hA ad e hp).2 hp
theorem arm1n {w : World} {h dg wg mg q p mq mp : Nat} {Av : Nat → Prop} {X Y : Wnd} {S T : Drv} (hT : World1 w h Av dg wg mg q p mq mp X S Y T) (hh : h ≤ w.heap.size) (A : Option Addr) (n c : Nat) (l : List (Int × Int)) (hn : n = l.length) (hr : Reads w w.heap.size 2 A n (planCells l)) (hA : ∀ ad, A = some ad → ad.block < h ∨ Av ad.block) (hb : n * 16 ≤ 140737488351232) :
    Calls Tryz.prog 34 #[.pointer (some ⟨q, 0, none⟩), .slice A n c] w fun e w' => e = .returned (.tuple #[]) ∧ World1 w' h Av dg wg mg q p mq mp (X.arm l) S Y T ∧ Touch (fr h Av) w w' := by
  subst hn; exact arm1 hT hh A c l hr hA hb
theorem own_ad {w : World} {base n c : Nat} {e : TypeId} {s : Nat} {a : Option Addr} {xs : List Value} (h : w.ownsRow base e s (.slice a n c) n xs) {ad : Addr} (hA : a = some ad) : base ≤ ad.block ∧ ad.block < w.heap.size := by
  subst hA
  rcases h.2 with ⟨e, _⟩ | ⟨g, cap, cur, e, _⟩
  · cases e
  · injection e with e _ _
    injection e with e
    subst e
    exact h.lt g rfl
set_option maxRecDepth 100000 in
set_option maxHeartbeats 8000000 in
theorem do_arm (w : World) (h dg dc wg wc mg mc q p mq mp : Nat) (Av : Nat → Prop) (X Y : Wnd) (S T : Drv) (hT : World1 w h Av dg wg mg q p mq mp X S Y T) (hh : h ≤ w.heap.size) (hcap : Caps dc wc mc) (x : PAct) (L : ALay) (hk : x.kind = 1) (hrp : Reads w w.heap.size 2 L.pa x.plan.length (planCells x.plan)) (hpA : ∀ ad, L.pa = some ad → 0 < x.plan.length → ad.block < h ∨ Av ad.block) (hpn : x.plan.length * 16 ≤ 140737488351232) :
    Calls Tryz.prog 53 #[bothV dg dc wg wc mg mc, .agg (actCells x L)] w fun e w' => e = .returned (.tuple #[]) ∧ World1 w' h Av dg wg mg q p mq mp (X.arm x.plan) S (Y.arm x.plan) T ∧ Touch (fr h Av) w w' := by
  obtain ⟨kind, place, at_, n, data, plan, R, C, I⟩ := x
  obtain ⟨da, dcc, pa, pc, fa, fn, fc⟩ := L
  simp only at hk hrp hpA hpn
  subst hk
  unfold bothV actCells
  simp only
  obtain ⟨hc1, hc2, hc3⟩ := hcap
  have hr := hT.rows
  obtain ⟨r1, r2, r3, l1, l2, l3⟩ := hr
  have hmq0 : mq < w.heap.size := by obtain ⟨_, hg0, _⟩ := hT.gate hh; exact hg0.lt
  have hmqn : mq ≠ w.heap.size + 1 := by omega
  have hmqm : w.heap.size + 1 ≠ mq := by omega
  have HT := Lib.hid hT
  obtain ⟨iF, hiF, hz0, hz1, hz2⟩ := info_parts faultInfo
  obtain ⟨np, hnp⟩ : ∃ np, np = plan.length := ⟨_, rfl⟩
  have HNP := Lib.hid hnp
  rw [← hnp] at hrp hpn hpA
  rw [← hnp]
  have HRP : Hid (∀ V, Touch (fr h Av) w V → Reads V V.heap.size 2 pa np (planCells plan)) := Lib.hid fun V hV => (hrp.touch0 hV (Nat.le_refl _) (fun ad e h0 hf => by
    rcases hpA ad e h0 with h1 | h1
    · have := hf.1; omega
    · exact hf.2 h1)).more hV.size
  have HBX : Hid (∀ w1, Below w.heap.size w w1 → World1 w1 h (fun k => Av k ∨ (w.heap.size ≤ k ∧ k < w1.heap.size)) dg wg mg q p mq mp X S Y T) := Lib.hid fun w1 hb => hT.boxed hb
  have HONE : Hid (∀ u ∈ planCells plan, u.oneCell' = true) := Lib.hid (by
    intro u hu
    unfold planCells at hu
    simp only [List.mem_flatMap] at hu
    obtain ⟨f, _, hf⟩ := hu
    simp at hf
    rcases hf with rfl | rfl <;> rfl)
  have HM63 : Hid (0 + np ≤ maxLen) := Lib.hid (by simp only [maxLen]; omega)
  have HM40 : Hid ((0 + np) * 16 ≤ 140737488355328) := Lib.hid (by omega)
  have HB2 : Hid (∀ o1 o2, Below w.heap.size w ((w.alloc o1).alloc o2)) := Lib.hid fun o1 o2 => ((Below.refl _ w).alloc (Nat.le_refl _) _).alloc (by simp) _
  have HPK := Lib.hid pick_one
  clear hT hrp hpA hnp
  go_enter Tryz.func53, Tryz.ntmps53
  go_wp2_with (first
    | (go_at_call 18; refine (HPK.out _ _).mono ?_; rintro e w' ⟨rfl, rfl⟩)
    | (at_builtin; go_must (refine wpList_append_any _ (by rfl) (.const (.slice none 0 0)) (.tmp 64) 52 (by rfl) w.heap.size 214 iF _ 2 16 Tryz.underlying52 hiF hz0 hz1 hz2 rfl (by omega) (.slice none 0 0) 0 [] (by rfl) (World.ownsRow_nil _ _ _ _) _ pa np pc (planCells plan) (by rfl) (HRP.out _ (Touch.of_below (HB2.out _ _))) HONE.out HM63.out HM40.out (by simp; omega) ?_); intro v1 w1 hown1 hg1 hat1; obtain ⟨a1, c1, rfl, _⟩ := own_shape hown1; rw [Nat.zero_add, List.nil_append] at hown1; go_must (have HO1 := Lib.hid hown1; have hb1 : Below (w.heap.size + 2) ((w.alloc (.cells #[.slice (some ⟨dg, 0, none⟩) 1 dc, .slice (some ⟨wg, 0, none⟩) 1 wc, .slice (some ⟨mg, 0, none⟩) 1 mc] 67)).alloc (.cells #[.int .i64 1, .int .i64 place, .int .i64 at_, .int .i64 n, .slice da data.length dcc, .slice pa np pc, .int .i64 R, .int .i64 C, .int .i64 I, .slice fa fn fc] 98)) w1 := (Below.refl _ _).grown hg1 (by simp) (fun k hk => (by simp [Value.ownBlock] at hk)); have HB1 := Lib.hid hb1; clear hown1 hg1 hat1 hb1))
    | (go_at_call 34; go_must (have hbw1 : Below w.heap.size w w1 := (HB2.out _ _).trans (HB1.out.mono (by omega)); have HBW1 := Lib.hid hbw1; refine (arm1n (HBX.out w1 hbw1) (by have := hbw1.size; omega) a1 np c1 plan HNP.out (Reads.of_own HO1.out) (fun ad e => .inr (.inr (own_ad HO1.out e))) hpn).mono ?_); rintro e w2 ⟨rfl, h2, t2⟩; have HT2 := Lib.hid h2; have HTT := Lib.hid t2; clear h2 t2 hbw1))
  have hs1 : w.heap.size + 2 ≤ w1.heap.size := by have := HB1.out.size; simpa using this
  have hsz2 : w1.heap.size ≤ w2.heap.size := HTT.out.size
  have HAC : Hid (Blk w2 (w.heap.size + 1) 98 #[.int .i64 1, .int .i64 place, .int .i64 at_, .int .i64 n, .slice da data.length dcc, .slice pa np pc, .int .i64 R, .int .i64 C, .int .i64 I, .slice fa fn fc]) := Lib.hid ((fr_av HTT.out (k := w.heap.size + 1) (.inr (by omega)) (by omega)).trans ((HB1.out.block (w.heap.size + 1) (by omega)).trans (blk_last _ _ _ _ (by simp))))
  have a5 : w2.cell? ⟨w.heap.size + 1, 5, none⟩ = some (.slice pa np pc) := HAC.out.cell 5
  obtain ⟨g, hg, hgo⟩ := HT2.out.gate (by omega)
  have HGO := Lib.hid hgo
  obtain ⟨gd, ga, gpa, gpn, gpc, gk, gr, gl, gR, gC, gI⟩ := g
  have HGI := Lib.hid hg
  obtain ⟨gof, c1', c2, c3, c4, c5, c6, c7, c8, c9, gf, hmq⟩ := hg
  simp only at c1' c2 c3 c4 c5 c6 c7 c8 c9
  have HGF := Lib.hid gof
  have hT2 : Touch (fr h Av) w w2 := (Touch.of_below HBW1.out).then_ (fr_mono HTT.out fun k hk => .inl hk)
  have HR2 : Hid (∀ V, Below w2.heap.size w2 V → Reads V w2.heap.size 2 pa np (planCells plan)) := Lib.hid fun V hV => (HRP.out w2 hT2).below hV
  clear hgo gof r1 r2 r3 hT2
  refine wp_region_held_drew (S := (fun w' => w'.cell? ⟨w.heap.size + 1, 5, none⟩ = some (.slice pa np pc))) (by kernel_rfl) ?_ (fun hHeld => ?_)
  · ((try dsimp only); (first | (with_reducible exact HSK.out) | go_keep))
  refine hT (v := ?_) 0 rfl (by assumption) ?_ ?_
  rotate_left
  · (intro wS hSw; (try dsimp only at hSw); go_simp; try with_reducible rfl)
  try simp only [Act.put, List.setIfInBounds_toArray]
  refine hT (v := ?_) 1 rfl (by assumption) ?_ ?_
  rotate_left
  · (intro wS hSw; (try dsimp only at hSw); go_simp; try with_reducible rfl)
  try simp only [Act.put]
  refine hT (v := ?_) 2 rfl (by assumption) ?_ ?_
  rotate_left
  · (intro wS hSw; (try dsimp only at hSw); go_simp; try with_reducible rfl)
  try simp only [Act.put]
  refine hT (v := ?_) 3 rfl (by assumption) ?_ ?_
  rotate_left
  · (intro wS hSw; (try dsimp only at hSw); go_simp; try with_reducible rfl)
  try simp only [Act.put]
  refine hT (v := ?_) 5 rfl (by assumption) ?_ ?_
  rotate_left
  · (intro wS hSw; (try dsimp only at hSw); go_simp; try with_reducible rfl)
  try simp only [Act.put]
  refine hT (v := ?_) 6 rfl (by assumption) ?_ ?_
  rotate_left
  · (intro wS hSw; (try dsimp only at hSw); go_simp; try with_reducible rfl)
  try simp only [Act.put]
  refine wpAnyH_ready (rs := [4]) (by kernel_rfl) (by simp) (AllReadyH.cons (o := _) rfl (fun K hK => ?b1y1x4) AllReadyH.nil)
  go_simp
  refine hK.out _ _ ?_ (fun hHeld => ?_)
  · ((try dsimp only); (first | (with_reducible exact HSK.out) | go_keep))
  clear hK K; try simp only [Act.put, List.setIfInBounds_toArray, List.set_cons_zero, List.set_cons_succ]
  refine wpAnyH_ready (rs := [7]) (by kernel_rfl) (by simp) (AllReadyH.cons (o := _) rfl (fun K hK => ?b1y2x7) AllReadyH.nil)
  go_simp; go_at_call 94; refine (garm_any ⟨gd, ga, gpa, gpn, gpc, gk, gr, gl, gR, gC, gI⟩ pa np pc plan _ w2.heap.size (HR2.out _ (below_drew1 (Below.refl _ _))) hpn (Nat.le_refl _)).mono ?_; rintro e w3 ⟨pa', pc', he, hrow3, hb3'⟩; simp only [gcells] at he; subst he; have hb3 : Below w2.heap.size w2 w3 := ⟨hb3'.os, hb3'.tape, hb3'.output, hb3'.size, hb3'.block⟩; have HB3 := Lib.hid hb3; have HROW3 : Hid (w3.ownsRow w2.heap.size 214 2 (.slice pa' np pc') np (planCells plan)) := Lib.hid hrow3; have d1 := (hb3.cell (p := ⟨mq, 1, none⟩) hmq).trans HGI.out.c1; have d2 := (hb3.cell (p := ⟨mq, 2, none⟩) hmq).trans HGI.out.c2; have d3 := (hb3.cell (p := ⟨mq, 3, none⟩) hmq).trans HGI.out.c3; have d4 := (hb3.cell (p := ⟨mq, 4, none⟩) hmq).trans HGI.out.c4; have d5 := (hb3.cell (p := ⟨mq, 5, none⟩) hmq).trans HGI.out.c5; have d6 := (hb3.cell (p := ⟨mq, 6, none⟩) hmq).trans HGI.out.c6; have d7 := (hb3.cell (p := ⟨mq, 7, none⟩) hmq).trans HGI.out.c7; have d8 := (hb3.cell (p := ⟨mq, 8, none⟩) hmq).trans HGI.out.c8; have d9 := (hb3.cell (p := ⟨mq, 9, none⟩) hmq).trans HGI.out.c9; have df : ∀ i, w3.frozen? ⟨mq, i, none⟩ = false := (fun i => (hb3.frozen (p := ⟨mq, i, none⟩) hmq).trans (HGI.out.fz i)); have hmq3 : mq < w3.heap.size := Nat.lt_of_lt_of_le hmq hb3.size; have HSK : Hid (w3.cell? ⟨w.heap.size + 1, 5, none⟩ = some (.slice pa np pc)) := Lib.hid ((hb3.cell (p := ⟨w.heap.size + 1, 5, none⟩) (by show w.heap.size + 1 < _; omega)).trans a5); clear hb3 hb3' hrow3
  refine hK.out _ _ ?_ (fun hHeld => ?_)
  · ((try dsimp only); (first | (with_reducible exact HSK.out) | go_keep))
  clear hK K; try simp only [Act.put, List.setIfInBounds_toArray, List.set_cons_zero, List.set_cons_succ]
  refine hT (v := ?_) 8 rfl (by assumption) ?_ ?_
  rotate_left
  · (intro wS hSw; (try dsimp only at hSw); go_simp; try with_reducible rfl)
  try simp only [Act.put, List.setIfInBounds_toArray]
  refine hT (v := ?_) 9 rfl (by assumption) ?_ ?_
  rotate_left
  · (intro wS hSw; (try dsimp only at hSw); go_simp; try with_reducible rfl)
  try simp only [Act.put]
  refine wpAnyH_ready (rs := [10]) (by kernel_rfl) (by simp) (AllReadyH.cons (o := _) rfl (fun K hK => ?b1y3x10) AllReadyH.nil)
  go_simp
  refine hK.out _ _ ?_ (fun hHeld => ?_)
  · ((try dsimp only); (first | (with_reducible exact HSK.out) | go_keep))
  clear hK K; try simp only [Act.put, List.setIfInBounds_toArray, List.set_cons_zero, List.set_cons_succ]
  refine wpAnyH_done (by kernel_rfl) ?_ _
  all_goals
    refine exit_world fun V hV => ?_
    have HEND : Hid (World1 V h Av dg wg mg q p mq mp (X.arm plan) S (Y.arm plan) T ∧ Touch (fr h Av) w V) := Lib.hid (by
      have hof := HGF.out.arm plan pa' pc'
      rw [← HNP.out] at hof
      have h5 := HGO.out w3 ⟨gd, ga, pa', np, pc', 0, gr, gl, gR, gC, gI⟩ (Y.arm plan) HB3.out hof (.inl HROW3.out)
      have e : V = setG w3 mq ⟨gd, ga, pa', np, pc', 0, gr, gl, gR, gC, gI⟩ := by rw [hV]; rfl
      rw [← e] at h5
      exact World1.end_ h5.1 (HTT.out.then_ h5.2) HBW1.out (fun k hk => .inl hk) HT.out.avd)
    clear hV
    go_wp2
    go_end0
    exact ⟨rfl, HEND.out.1, HEND.out.2⟩
end Go.Proofs.YtcbebefdbdppdaaGreat

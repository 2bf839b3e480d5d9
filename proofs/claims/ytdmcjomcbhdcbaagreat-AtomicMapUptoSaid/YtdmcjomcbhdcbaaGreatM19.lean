/- The document's disk in memory: a drive and its gate in one struct; a wound and a disk side by side.; The gate is armed.; Worlds of one drive: an act from outside, in both worlds: Pick, and the rows of a world. -/
import Derived.Test.YtdmcjomcbhdcbaaGreatM17
import Derived.Test.YtdmcjomcbhdcbaaGreatM18
import Derived.Test.YtdmcjomcbhdcbaaGreatM13
namespace Go.Proofs.YtdmcjomcbhdcbaaGreat
open Go.RowKit Go.Maps

def dcells (dv : Value) (g : GCells) : Array Value := #[dv, .bool g.d, .bool g.a, .slice g.pa g.pn g.pc, .int .i64 g.k, .int .i64 g.r, .bool g.laid, .int .i64 g.R, .int .i64 g.C, .int .i64 g.I]
/-- The gate of a disk, at q. -/
structure GtAt (w : World) (q : Nat) (dv : Value) (X : Wnd) (g : GCells) : Prop where
  head : Blk w q 127 (dcells dv g)
  of : GateOf X g
  plan : w.ownsRow 0 181 2 (.slice g.pa g.pn g.pc) g.pn (planCells X.plan)
def Gt (w : World) (q : Nat) (dv : Value) (X : Wnd) (F : Nat → Prop) : Prop := ∃ g, GtAt w q dv X g ∧ F q ∧ ∀ k, (Value.slice g.pa g.pn g.pc).ownBlock = some k → F k
section
variable {w w' : World} {q : Nat} {dv : Value} {X : Wnd} {F G : Nat → Prop}
theorem Gt.keep (h : Gt w q dv X F) (ht : Touch G w w') (hd : ∀ k, F k → ¬G k) : Gt w' q dv X F := by
  obtain ⟨g, h, hq, hF⟩ := h
  exact ⟨g, ⟨(ht.block q h.head.lt (hd q hq)).trans h.head, h.of, ownsRow_keep h.plan fun k e => ht.block k (h.plan.lt k e).2 (hd k (hF k e))⟩, hq, hF⟩
theorem Gt.mono (h : Gt w q dv X F) (hFG : ∀ k, F k → G k) : Gt w q dv X G := by
  obtain ⟨g, h, hq, hF⟩ := h; exact ⟨g, h, hFG q hq, fun k e => hFG k (hF k e)⟩
theorem Gt.lt (h : Gt w q dv X F) : Gt w q dv X fun k => F k ∧ k < w.heap.size := by
  obtain ⟨g, h, hq, hF⟩ := h; exact ⟨g, h, ⟨hq, h.head.lt⟩, fun k e => ⟨hF k e, (h.plan.lt k e).2⟩⟩
end
structure DKp (w : World) (q p : Nat) (X : Wnd) (S : Drv) (FG FM : Nat → Prop) : Prop where
  gt : Gt w q (.pointer (some ⟨p, 0, none⟩)) X FG
  md : Md w p S FM
  glt : ∀ k, FG k → k < w.heap.size
  mlt : ∀ k, FM k → k < w.heap.size
  no : ∀ k, FG k → ¬FM k
/-- A disk of the document's: its gate and its drive, within the blocks F. -/
def DK (w : World) (q p : Nat) (X : Wnd) (S : Drv) (F : Nat → Prop) : Prop := ∃ FG FM, DKp w q p X S FG FM ∧ ∀ k, FG k ∨ FM k → F k
section
variable {w w1 : World} {q p : Nat} {X Y : Wnd} {S T : Drv} {F G FG FM : Nat → Prop}
theorem DK.mono (h : DK w q p X S F) (hFG : ∀ k, F k → G k) : DK w q p X S G := by
  obtain ⟨FG, FM, h, hf⟩ := h; exact ⟨FG, FM, h, fun k hk => hFG k (hf k hk)⟩
theorem DK.keep (h : DK w q p X S F) (ht : Touch G w w1) (hd : ∀ k, F k → ¬G k) : DK w1 q p X S F := by
  obtain ⟨FG, FM, h, hf⟩ := h
  exact ⟨FG, FM, ⟨h.gt.keep ht fun k hk => hd k (hf k (.inl hk)), h.md.keep ht fun k hk => hd k (hf k (.inr hk)), fun k hk => Nat.lt_of_lt_of_le (h.glt k hk) ht.size, fun k hk => Nat.lt_of_lt_of_le (h.mlt k hk) ht.size, h.no⟩, hf⟩
theorem DK.below (h : DK w q p X S F) (hb : Below w.heap.size w w1) : DK w1 q p X S F := h.keep (Touch.of_below (F := fun _ => False) hb) fun _ _ h => h
theorem DK.lt (h : DK w q p X S F) : DK w q p X S fun k => F k ∧ k < w.heap.size := by
  obtain ⟨FG, FM, h, hf⟩ := h
  refine ⟨FG, FM, h, fun k hk => ⟨hf k hk, ?_⟩⟩
  rcases hk with hk | hk
  · exact h.glt k hk
  · exact h.mlt k hk
/-- A step of the drive of a disk. -/
theorem DKp.drive (h : DKp w q p X S FG FM) (hF : ∀ k, FG k ∨ FM k → F k) (hm : Md w1 p T (grow FM w w1)) (ht : Touch FM w w1) : DK w1 q p X T (grow F w w1) ∧ Touch F w w1 := by
  refine ⟨⟨FG, grow FM w w1, ⟨h.gt.keep ht fun k hk hd => h.no k hk hd, hm, fun k hk => Nat.lt_of_lt_of_le (h.glt k hk) ht.size, fun k hk => ?_, fun k hk hd => ?_⟩, fun k hk => ?_⟩, ht.mono fun k _ hk => hF k (.inr hk)⟩
  · rcases hk with hk | hk
    · exact Nat.lt_of_lt_of_le (h.mlt k hk) ht.size
    · exact hk.2
  · rcases hd with hd | hd
    · exact h.no k hk hd
    · have := h.glt k hk; omega
  · rcases hk with hk | hk | hk
    · exact .inl (hF k (.inl hk))
    · exact .inl (hF k (.inr hk))
    · exact .inr hk
/-- A step of the gate of a disk. -/
theorem DKp.gate (h : DKp w q p X S FG FM) (hF : ∀ k, FG k ∨ FM k → F k) (hg : Gt w1 q (.pointer (some ⟨p, 0, none⟩)) Y (grow FG w w1)) (ht : Touch FG w w1) : DK w1 q p Y S (grow F w w1) ∧ Touch F w w1 := by
  refine ⟨⟨grow FG w w1, FM, ⟨hg, h.md.keep ht fun k hk hd => h.no k hd hk, fun k hk => ?_, fun k hk => Nat.lt_of_lt_of_le (h.mlt k hk) ht.size, fun k hk hd => ?_⟩, fun k hk => ?_⟩, ht.mono fun k _ hk => hF k (.inl hk)⟩
  · rcases hk with hk | hk
    · exact Nat.lt_of_lt_of_le (h.glt k hk) ht.size
    · exact hk.2
  · rcases hk with hk | hk
    · exact h.no k hk hd
    · have := h.mlt k hd; omega
  · rcases hk with (hk | hk) | hk
    · exact .inl (hF k (.inl hk))
    · exact .inr hk
    · exact .inl (hF k (.inr hk))
end

/-- A wound and a disk side by side, all of both at h or above. -/
def Twin (w : World) (h q p mq mp : Nat) (X : Wnd) (S : Drv) (Y : Wnd) (T : Drv) : Prop :=
  ∃ F1 F2 : Nat → Prop, WD w q p X S F1 ∧ DK w mq mp Y T F2 ∧ (∀ k, F1 k → h ≤ k ∧ k < w.heap.size) ∧ (∀ k, F2 k → h ≤ k ∧ k < w.heap.size) ∧ ∀ k, F1 k → ¬F2 k
section
variable {w w1 : World} {h q p mq mp : Nat} {X X' Y Y' : Wnd} {S S' T T' : Drv}
theorem Twin.wound {F1 F2 : Nat → Prop} (hh : h ≤ w.heap.size) (hd : DK w mq mp Y T F2) (h1 : ∀ k, F1 k → h ≤ k ∧ k < w.heap.size) (h2 : ∀ k, F2 k → h ≤ k ∧ k < w.heap.size) (hno : ∀ k, F1 k → ¬F2 k)
    (hw : WD w1 q p X' S' (grow F1 w w1)) (ht : Touch F1 w w1) : Twin w1 h q p mq mp X' S' Y T ∧ Below h w w1 := by
  have hs := ht.size
  refine ⟨⟨grow F1 w w1, F2, hw, hd.keep ht fun k hk hf => hno k hf hk, fun k hk => ?_, fun k hk => ?_, fun k hk hf => ?_⟩, ht.below hh fun k hk => (h1 k hk).1⟩
  · rcases hk with hk | hk
    · have := h1 k hk; omega
    · omega
  · have := h2 k hk; omega
  · rcases hk with hk | hk
    · exact hno k hk hf
    · have := h2 k hf; omega
theorem Twin.disk {F1 F2 : Nat → Prop} (hh : h ≤ w.heap.size) (hd : WD w q p X S F1) (h1 : ∀ k, F1 k → h ≤ k ∧ k < w.heap.size) (h2 : ∀ k, F2 k → h ≤ k ∧ k < w.heap.size) (hno : ∀ k, F1 k → ¬F2 k)
    (hw : DK w1 mq mp Y' T' (grow F2 w w1)) (ht : Touch F2 w w1) : Twin w1 h q p mq mp X S Y' T' ∧ Below h w w1 := by
  have hs := ht.size
  refine ⟨⟨F1, grow F2 w w1, hd.keep ht hno, hw, fun k hk => ?_, fun k hk => ?_, fun k hk hf => ?_⟩, ht.below hh fun k hk => (h2 k hk).1⟩
  · have := h1 k hk; omega
  · rcases hk with hk | hk
    · have := h2 k hk; omega
    · omega
  · rcases hf with hf | hf
    · exact hno k hk hf
    · have := h1 k hk; omega
theorem Twin.below (hT : Twin w h q p mq mp X S Y T) (hb : Below w.heap.size w w1) : Twin w1 h q p mq mp X S Y T := by
  obtain ⟨F1, F2, a, b, h1, h2, hno⟩ := hT
  have hs := hb.size
  exact ⟨F1, F2, WD.below a hb, b.below hb, fun k hk => by have := h1 k hk; omega, fun k hk => by have := h2 k hk; omega, hno⟩
/-- A call that takes a wound on. -/
theorem Twin.on_wound {f : Nat} {ar : Array Value} {Q : Ending → World → Prop} (hT : Twin w h q p mq mp X S Y T) (hh : h ≤ w.heap.size)
    (hc : ∀ F, WD w q p X S F → Calls Tryz.prog f ar w fun e w' => ∃ X' S', WD w' q p X' S' (grow F w w') ∧ Touch F w w' ∧ (Twin w' h q p mq mp X' S' Y T → Below h w w' → Q e w')) : Calls Tryz.prog f ar w Q := by
  obtain ⟨F1, F2, a, b, h1, h2, hno⟩ := hT
  refine (hc F1 a).mono ?_
  rintro e w' ⟨X', S', hw, ht, hq⟩
  obtain ⟨k1, k2⟩ := Twin.wound hh b h1 h2 hno hw ht
  exact hq k1 k2
theorem Twin.on_disk {f : Nat} {ar : Array Value} {Q : Ending → World → Prop} (hT : Twin w h q p mq mp X S Y T) (hh : h ≤ w.heap.size)
    (hc : ∀ F, DK w mq mp Y T F → Calls Tryz.prog f ar w fun e w' => ∃ Y' T', DK w' mq mp Y' T' (grow F w w') ∧ Touch F w w' ∧ (Twin w' h q p mq mp X S Y' T' → Below h w w' → Q e w')) : Calls Tryz.prog f ar w Q := by
  obtain ⟨F1, F2, a, b, h1, h2, hno⟩ := hT
  refine (hc F2 b).mono ?_
  rintro e w' ⟨Y', T', hw, ht, hq⟩
  obtain ⟨k1, k2⟩ := Twin.disk hh a h1 h2 hno hw ht
  exact hq k1 k2
end

theorem mdnew_nil (w : World) : Calls Tryz.prog 34 #[.pointer none] w fun e w' => e = .returned (.pointer none) ∧ w = w' := by
  go_enter Tryz.func34, Tryz.ntmps34
  go_wp2
  go_ret
  exact ⟨rfl, rfl⟩
def g0 : GCells := ⟨false, false, none, 0, 0, 0, 0, false, 0, 0, 0⟩
theorem mdnew_any (p : Nat) (w : World) : Calls Tryz.prog 34 #[.pointer (some ⟨p, 0, none⟩)] w fun e w' =>
    e = .returned (.pointer (some ⟨w.heap.size, 0, none⟩)) ∧ GtAt w' w.heap.size (.pointer (some ⟨p, 0, none⟩)) Wnd.new g0 ∧ Below w.heap.size w w' ∧ w'.heap.size = w.heap.size + 1 := by
  go_enter Tryz.func34, Tryz.ntmps34
  go_wp2
  go_ret
  exact ⟨rfl, ⟨Blk.new _ _ _, GateOf.new, World.ownsRow_nil _ _ _ _⟩, (Below.refl _ w).alloc (Nat.le_refl _) _, by simp⟩

end Go.Proofs.YtdmcjomcbhdcbaaGreat
namespace Go.Proofs.YtdmcjomcbhdcbaaGreat
open Go.RowKit Go.Maps
def zeroGate : Array Value := #[.bool false, .bool false, .slice none 0 0, .int .i64 0, .int .i64 0, .bool false, .int .i64 0, .int .i64 0, .int .i64 0]
theorem Reads.far {w w' : World} {B size n : Nat} {A : Option Addr} {xs : List Value} (h : Reads w B size A n xs) (hk : ∀ k, k < B → w'.heap[k]? = w.heap[k]?) : Reads w' B size A n xs :=
  h.keep fun p hp => World.cell?_of_block (hk p.block hp)
set_option maxHeartbeats 1000000 in
theorem garm_any (g : GCells) (A : Option Addr) (n c : Nat) (l : List (Int × Int)) (w : World) (B : Nat) (hr : Reads w B 2 A n (planCells l)) (hn : n * 16 ≤ 140737488351232) (hB : B ≤ w.heap.size) :
    Calls Tryz.prog 57 #[.agg (gcells g), .slice A n c] w fun e w' => ∃ pa pc, e = .returned (.agg (gcells { g with pa := pa, pn := n, pc := pc, k := 0 })) ∧ w'.ownsRow w.heap.size 181 2 (.slice pa n pc) n (planCells l) ∧ Below w.heap.size w w' := by
  obtain ⟨W, hW⟩ : ∃ W, W = (w.alloc (.cells (gcells g) 125)).alloc (.cells zeroGate 125) := ⟨_, rfl⟩
  have hWB : Below w.heap.size w W := by rw [hW]; exact ((Below.refl _ w).alloc (Nat.le_refl _) _).alloc (by simp) _
  have HWB := Lib.hid hWB
  have HG : Hid (Blk W w.heap.size 125 (gcells g)) := Lib.hid (by rw [hW]; exact (Blk.new _ _ _).alloc _)
  have HQ : Hid (Blk W (w.heap.size + 1) 125 zeroGate) := Lib.hid (by rw [hW]; exact blk_last _ _ _ _ (by simp))
  have HRD := Lib.hid ((hr.far fun k hk => hWB.block k (Nat.lt_of_lt_of_le hk hB)) : Reads W B 2 A n (planCells l))
  have HONE : Hid (∀ u ∈ planCells l, u.oneCell' = true) := Lib.hid (by
    intro u hu
    unfold planCells at hu
    simp only [List.mem_flatMap] at hu
    obtain ⟨f, _, hf⟩ := hu
    simp at hf
    rcases hf with rfl | rfl <;> rfl)
  have hws : W.heap.size = w.heap.size + 2 := by rw [hW]; simp
  have HWS := Lib.hid hws
  unfold gcells zeroGate at hW
  have HW := Lib.hid hW
  have hm63 : 0 + n ≤ maxLen := by simp only [maxLen]; omega
  have HM63 := Lib.hid hm63
  have hm40 : (0 + n) * 16 ≤ 140737488355328 := by omega
  have HM40 := Lib.hid hm40
  clear hr hm63 hm40 hW hWB hws
  obtain ⟨i5, hi5, hz0, hz1, hz2⟩ := info_parts faultInfo
  unfold gcells
  go_enter Tryz.func57, Tryz.ntmps57
  go_wp2_with (at_builtin; go_loud (rw [← HW.out]; refine wpList_append_any _ rfl _ _ 23 rfl W.heap.size 181 i5 _ 2 16 Tryz.underlying23 hi5 hz0 hz1 hz2 rfl (by omega) (.slice none 0 0) 0 [] rfl (World.ownsRow_nil _ _ _ _) B A n c (planCells l) rfl HRD.out HONE.out HM63.out HM40.out (Nat.le_refl _) ?_); intro v1 w1 hown1 hg1 hat1; obtain ⟨a1, c1, hv1, _⟩ := own_shape hown1; subst hv1; rw [Nat.zero_add] at hown1 ⊢; have HB1 : Hid (Below W.heap.size W w1) := Lib.hid ((Below.refl _ _).grown hg1 (Nat.le_refl _) (fun k hk => by simp [Value.ownBlock] at hk)); have HOWN := Lib.hid hown1; have k1 := HG.out.below HB1.out HG.out.lt; have k2 := HQ.out.below HB1.out HQ.out.lt; have g0 : w1.cell? ⟨w.heap.size, 0, none⟩ = some (.bool g.d) := k1.cell 0; have g1 : w1.cell? ⟨w.heap.size, 1, none⟩ = some (.bool g.a) := k1.cell 1; have g2 : w1.cell? ⟨w.heap.size, 2, none⟩ = some (.slice g.pa g.pn g.pc) := k1.cell 2; have g3 : w1.cell? ⟨w.heap.size, 3, none⟩ = some (.int .i64 g.k) := k1.cell 3; have g4 : w1.cell? ⟨w.heap.size, 4, none⟩ = some (.int .i64 g.r) := k1.cell 4; have g5 : w1.cell? ⟨w.heap.size, 5, none⟩ = some (.bool g.laid) := k1.cell 5; have g6 : w1.cell? ⟨w.heap.size, 6, none⟩ = some (.int .i64 g.R) := k1.cell 6; have g7 : w1.cell? ⟨w.heap.size, 7, none⟩ = some (.int .i64 g.C) := k1.cell 7; have g8 : w1.cell? ⟨w.heap.size, 8, none⟩ = some (.int .i64 g.I) := k1.cell 8; have gf : ∀ i, w1.frozen? ⟨w.heap.size, i, none⟩ = false := k1.frozen; have q0 : w1.cell? ⟨w.heap.size + 1, 0, none⟩ = some (.bool false) := k2.cell 0; have q1 : w1.cell? ⟨w.heap.size + 1, 1, none⟩ = some (.bool false) := k2.cell 1; have q2 : w1.cell? ⟨w.heap.size + 1, 2, none⟩ = some (.slice none 0 0) := k2.cell 2; have q3 : w1.cell? ⟨w.heap.size + 1, 3, none⟩ = some (.int .i64 0) := k2.cell 3; have q4 : w1.cell? ⟨w.heap.size + 1, 4, none⟩ = some (.int .i64 0) := k2.cell 4; have q5 : w1.cell? ⟨w.heap.size + 1, 5, none⟩ = some (.bool false) := k2.cell 5; have q6 : w1.cell? ⟨w.heap.size + 1, 6, none⟩ = some (.int .i64 0) := k2.cell 6; have q7 : w1.cell? ⟨w.heap.size + 1, 7, none⟩ = some (.int .i64 0) := k2.cell 7; have q8 : w1.cell? ⟨w.heap.size + 1, 8, none⟩ = some (.int .i64 0) := k2.cell 8; have qf : ∀ i, w1.frozen? ⟨w.heap.size + 1, i, none⟩ = false := k2.frozen; have hl1 : w.heap.size + 1 < w1.heap.size := k2.lt; have hl0 : w.heap.size < w1.heap.size := k1.lt; clear hown1 hg1 hat1 k1 k2)
  refine bodyPost_ret (v := .agg #[.bool g.d, .bool g.a, .slice a1 n c1, .int .i64 0, .int .i64 g.r, .bool g.laid, .int .i64 g.R, .int .i64 g.C, .int .i64 g.I]) (by simp only [results, Tryz.results57]; go_simp) rfl ?_
  refine ⟨a1, c1, rfl, ?_, ?_⟩
  · have hws := HWS.out
    refine ownsRow_base_a (row_touch (G := fun k => k = w.heap.size ∨ k = w.heap.size + 1) HOWN.out ?_ (fun k hk => by omega)) HWB.out.size
    iterate 11 (with_reducible refine Touch.set ?_ (by simp) _)
    exact Touch.refl _ _
  · repeat (first | with_reducible exact HWB.out.trans (HB1.out.mono HWB.out.size) | with_reducible refine Below.setCell ?_ (by simp) _)

end Go.Proofs.YtdmcjomcbhdcbaaGreat
namespace Go.Proofs.YtdmcjomcbhdcbaaGreat
open Go.RowKit Go.Maps

theorem pick_one (k : Int) (w : World) : Calls Tryz.prog 55 #[.int .i64 k, .int .i64 1] w fun e w' => e = .returned (.int .i64 0) ∧ w = w' := by
  have h0 : k.tmod 1 = 0 := by rw [Int.tmod_one]
  go_enter Tryz.func55, Tryz.ntmps55
  go_wp2
  go_ret
  exact ⟨rfl, rfl⟩

/-- The three rows of a world of one drive. -/
structure Rows1 (w : World) (dg wg mg : Nat) (q mq : Nat) : Prop where
  d : w.cell? ⟨dg, 0, none⟩ = some (.iface 40 (.pointer (some ⟨q, 0, none⟩)))
  u : w.cell? ⟨wg, 0, none⟩ = some (.pointer (some ⟨q, 0, none⟩))
  m : w.cell? ⟨mg, 0, none⟩ = some (.pointer (some ⟨mq, 0, none⟩))
  dl : dg < w.heap.size
  ul : wg < w.heap.size
  ml : mg < w.heap.size
def bothV (dg dc wg wc mg mc : Nat) : Value := .agg #[.slice (some ⟨dg, 0, none⟩) 1 dc, .slice (some ⟨wg, 0, none⟩) 1 wc, .slice (some ⟨mg, 0, none⟩) 1 mc]
structure Caps (dc wc mc : Nat) : Prop where
  d : 1 ≤ dc
  u : 1 ≤ wc
  m : 1 ≤ mc
/-- What may turn: at h or above, and not among what is kept aside. -/
def fr (h : Nat) (Av : Nat → Prop) (k : Nat) : Prop := h ≤ k ∧ ¬Av k
/-- A world of one drive: the rows, the wound, the disk; all of it at h or above, and none of it among the blocks Av. -/
def World1 (w : World) (h : Nat) (Av : Nat → Prop) (dg wg mg q p mq mp : Nat) (X : Wnd) (S : Drv) (Y : Wnd) (T : Drv) : Prop :=
  ∃ F1 F2 : Nat → Prop, WD w q p X S F1 ∧ DK w mq mp Y T F2 ∧ Rows1 w dg wg mg q mq ∧ (∀ k, F1 k → h ≤ k ∧ k < w.heap.size) ∧ (∀ k, F2 k → h ≤ k ∧ k < w.heap.size) ∧ (∀ k, F1 k → ¬F2 k) ∧
    (∀ k, Av k → ¬F1 k ∧ ¬F2 k) ∧ (∀ k, k = dg ∨ k = wg ∨ k = mg → Av k) ∧ ∀ k, Av k → k < w.heap.size
theorem Rows1.keep {w w' : World} {dg wg mg q mq : Nat} {G : Nat → Prop} (h : Rows1 w dg wg mg q mq) (ht : Touch G w w') (hG : ∀ k, k = dg ∨ k = wg ∨ k = mg → ¬G k) : Rows1 w' dg wg mg q mq where
  d := (World.cell?_of_block (ht.block dg h.dl (hG _ (.inl rfl)))).trans h.d
  u := (World.cell?_of_block (ht.block wg h.ul (hG _ (.inr (.inl rfl))))).trans h.u
  m := (World.cell?_of_block (ht.block mg h.ml (hG _ (.inr (.inr rfl))))).trans h.m
  dl := Nat.lt_of_lt_of_le h.dl ht.size
  ul := Nat.lt_of_lt_of_le h.ul ht.size
  ml := Nat.lt_of_lt_of_le h.ml ht.size
section
variable {w w1 : World} {h dg wg mg q p mq mp : Nat} {Av Av' : Nat → Prop} {X X' Y Y' : Wnd} {S S' T T' : Drv}
theorem fr_below (ht : Touch (fr h Av) w w1) (hh : h ≤ w.heap.size) : Below h w w1 := ht.below hh fun _ hk => hk.1
theorem fr_av (ht : Touch (fr h Av) w w1) {k : Nat} (hk : Av k) (hl : k < w.heap.size) : w1.heap[k]? = w.heap[k]? := ht.block k hl fun hf => hf.2 hk
theorem World1.rows (hT : World1 w h Av dg wg mg q p mq mp X S Y T) : Rows1 w dg wg mg q mq := by
  obtain ⟨F1, F2, a, b, r, _⟩ := hT; exact r
theorem World1.avd (hT : World1 w h Av dg wg mg q p mq mp X S Y T) : ∀ k, k = dg ∨ k = wg ∨ k = mg → Av k := by
  obtain ⟨F1, F2, a, b, r, _, _, _, _, h1, _⟩ := hT; exact h1
theorem World1.below (hT : World1 w h Av dg wg mg q p mq mp X S Y T) (hb : Below w.heap.size w w1) : World1 w1 h Av dg wg mg q p mq mp X S Y T := by
  obtain ⟨F1, F2, a, b, r, h1, h2, hno, hr, hd, hl⟩ := hT
  have hs := hb.size
  exact ⟨F1, F2, WD.below a hb, b.below hb, r.keep (Touch.of_below (F := fun _ => False) hb) fun _ _ h => h, fun k hk => by have := h1 k hk; omega, fun k hk => by have := h2 k hk; omega, hno, hr, hd, fun k hk => by have := hl k hk; omega⟩
/-- What was made behind the world is kept aside. -/
theorem World1.boxed (hT : World1 w h Av dg wg mg q p mq mp X S Y T) (hb : Below w.heap.size w w1) : World1 w1 h (fun k => Av k ∨ (w.heap.size ≤ k ∧ k < w1.heap.size)) dg wg mg q p mq mp X S Y T := by
  obtain ⟨F1, F2, a, b, r, h1, h2, hno, hr, hd, hl⟩ := hT
  have hs := hb.size
  refine ⟨F1, F2, WD.below a hb, b.below hb, r.keep (Touch.of_below (F := fun _ => False) hb) fun _ _ h => h, fun k hk => by have := h1 k hk; omega, fun k hk => by have := h2 k hk; omega, hno, fun k hk => ?_, fun k hk => .inl (hd k hk), fun k hk => ?_⟩
  · rcases hk with hk | hk
    · exact hr k hk
    · exact ⟨fun hf => by have := h1 k hf; omega, fun hf => by have := h2 k hf; omega⟩
  · rcases hk with hk | hk
    · have := hl k hk; omega
    · exact hk.2
theorem World1.less (hT : World1 w h Av' dg wg mg q p mq mp X S Y T) (hA : ∀ k, Av k → Av' k) (hd : ∀ k, k = dg ∨ k = wg ∨ k = mg → Av k) : World1 w h Av dg wg mg q p mq mp X S Y T := by
  obtain ⟨F1, F2, a, b, r, h1, h2, hno, hr, _, hl⟩ := hT
  exact ⟨F1, F2, a, b, r, h1, h2, hno, fun k hk => hr k (hA k hk), hd, fun k hk => hl k (hA k hk)⟩
theorem fr_mono (ht : Touch (fr h Av') w w1) (hA : ∀ k, Av k → Av' k) : Touch (fr h Av) w w1 := ht.mono fun k _ hk => ⟨hk.1, fun ha => hk.2 (hA k ha)⟩
/-- Boxes, then a step in the world with the boxes aside. -/
theorem World1.end_ {W : World} (hT : World1 w1 h Av' dg wg mg q p mq mp X S Y T) (ht : Touch (fr h Av') W w1) (hb : Below w.heap.size w W) (hA : ∀ k, Av k → Av' k) (hd : ∀ k, k = dg ∨ k = wg ∨ k = mg → Av k) :
    World1 w1 h Av dg wg mg q p mq mp X S Y T ∧ Touch (fr h Av) w w1 :=
  ⟨hT.less hA hd, (Touch.of_below hb).then_ (fr_mono ht hA)⟩
/-- A call that takes the wound on. -/
theorem World1.on_wound {f : Nat} {ar : Array Value} {Q : Ending → World → Prop} (hT : World1 w h Av dg wg mg q p mq mp X S Y T) (hh : h ≤ w.heap.size)
    (hc : ∀ F, WD w q p X S F → (∀ k, F k → h ≤ k ∧ k < w.heap.size) → (∀ k, Av k → ¬F k) → Calls Tryz.prog f ar w fun e w' => ∃ X' S', WD w' q p X' S' (grow F w w') ∧ Touch F w w' ∧ (World1 w' h Av dg wg mg q p mq mp X' S' Y T → Touch (fr h Av) w w' → Q e w')) : Calls Tryz.prog f ar w Q := by
  obtain ⟨F1, F2, a, b, r, h1, h2, hno, hr, hd, hl⟩ := hT
  refine (hc F1 a h1 fun k hk => (hr k hk).1).mono ?_
  rintro e w' ⟨X', S', hw, ht, hq⟩
  have hs := ht.size
  refine hq ⟨grow F1 w w', F2, hw, b.keep ht fun k hk hf => hno k hf hk, r.keep ht fun k hk => (hr k (hd k hk)).1, fun k hk => ?_, fun k hk => ?_, fun k hk hf => ?_, fun k hk => ⟨fun hg => ?_, (hr k hk).2⟩, hd, fun k hk => ?_⟩ (ht.mono fun k _ hk => ⟨(h1 k hk).1, fun ha => (hr k ha).1 hk⟩)
  · rcases hk with hk | hk
    · have := h1 k hk; omega
    · omega
  · have := h2 k hk; omega
  · rcases hk with hk | hk
    · exact hno k hk hf
    · have := h2 k hf; omega
  · rcases hg with hg | hg
    · exact (hr k hk).1 hg
    · have := hl k hk; omega
  · have := hl k hk; omega
theorem World1.set_disk {F1 F2 : Nat → Prop} (hh : h ≤ w.heap.size) (a : WD w q p X S F1) (r : Rows1 w dg wg mg q mq) (h1 : ∀ k, F1 k → h ≤ k ∧ k < w.heap.size) (h2 : ∀ k, F2 k → h ≤ k ∧ k < w.heap.size) (hno : ∀ k, F1 k → ¬F2 k) (hr : ∀ k, Av k → ¬F1 k ∧ ¬F2 k) (hd : ∀ k, k = dg ∨ k = wg ∨ k = mg → Av k) (hl : ∀ k, Av k → k < w.heap.size)
    (hw : DK w1 mq mp Y' T' (grow F2 w w1)) (ht : Touch F2 w w1) : World1 w1 h Av dg wg mg q p mq mp X S Y' T' ∧ Touch (fr h Av) w w1 := by
  have hs := ht.size
  refine ⟨⟨F1, grow F2 w w1, a.keep ht hno, hw, r.keep ht fun k hk => (hr k (hd k hk)).2, fun k hk => ?_, fun k hk => ?_, fun k hk hf => ?_, fun k hk => ⟨(hr k hk).1, fun hg => ?_⟩, hd, fun k hk => ?_⟩, ht.mono fun k _ hk => ⟨(h2 k hk).1, fun ha => (hr k ha).2 hk⟩⟩
  · have := h1 k hk; omega
  · rcases hk with hk | hk
    · have := h2 k hk; omega
    · omega
  · rcases hf with hf | hf
    · exact hno k hk hf
    · have := h1 k hk; omega
  · rcases hg with hg | hg
    · exact (hr k hk).2 hg
    · have := hl k hk; omega
  · have := hl k hk; omega
theorem World1.on_disk {f : Nat} {ar : Array Value} {Q : Ending → World → Prop} (hT : World1 w h Av dg wg mg q p mq mp X S Y T) (hh : h ≤ w.heap.size)
    (hc : ∀ F, DK w mq mp Y T F → (∀ k, F k → h ≤ k ∧ k < w.heap.size) → (∀ k, Av k → ¬F k) → Calls Tryz.prog f ar w fun e w' => ∃ Y' T', DK w' mq mp Y' T' (grow F w w') ∧ Touch F w w' ∧ (World1 w' h Av dg wg mg q p mq mp X S Y' T' → Touch (fr h Av) w w' → Q e w')) : Calls Tryz.prog f ar w Q := by
  obtain ⟨F1, F2, a, b, r, h1, h2, hno, hr, hd, hl⟩ := hT
  refine (hc F2 b h2 fun k hk => (hr k hk).2).mono ?_
  rintro e w' ⟨Y', T', hw, ht, hq⟩
  obtain ⟨k1, k2⟩ := World1.set_disk hh a r h1 h2 hno hr hd hl hw ht
  exact hq k1 k2
end
/-- The gate's cells, as they lie, and what a new gate over them leaves. -/
structure GateIn (w : World) (mq : Nat) (Y : Wnd) (g : GCells) : Prop where
  of : GateOf Y g
  c1 : w.cell? ⟨mq, 1, none⟩ = some (.bool g.d)
  c2 : w.cell? ⟨mq, 2, none⟩ = some (.bool g.a)
  c3 : w.cell? ⟨mq, 3, none⟩ = some (.slice g.pa g.pn g.pc)
  c4 : w.cell? ⟨mq, 4, none⟩ = some (.int .i64 g.k)
  c5 : w.cell? ⟨mq, 5, none⟩ = some (.int .i64 g.r)
  c6 : w.cell? ⟨mq, 6, none⟩ = some (.bool g.laid)
  c7 : w.cell? ⟨mq, 7, none⟩ = some (.int .i64 g.R)
  c8 : w.cell? ⟨mq, 8, none⟩ = some (.int .i64 g.C)
  c9 : w.cell? ⟨mq, 9, none⟩ = some (.int .i64 g.I)
  fz : ∀ i, w.frozen? ⟨mq, i, none⟩ = false
  lt : mq < w.heap.size
def setG (w : World) (mq : Nat) (g : GCells) : World := ((((((((w.setCell ⟨mq, 1, none⟩ (.bool g.d)).setCell ⟨mq, 2, none⟩ (.bool g.a)).setCell ⟨mq, 3, none⟩ (.slice g.pa g.pn g.pc)).setCell ⟨mq, 4, none⟩ (.int .i64 g.k)).setCell ⟨mq, 5, none⟩ (.int .i64 g.r)).setCell ⟨mq, 6, none⟩ (.bool g.laid)).setCell ⟨mq, 7, none⟩ (.int .i64 g.R)).setCell ⟨mq, 8, none⟩ (.int .i64 g.C)).setCell ⟨mq, 9, none⟩ (.int .i64 g.I)
theorem setG_size (w : World) (mq : Nat) (g : GCells) : (setG w mq g).heap.size = w.heap.size := by unfold setG; repeat rw [size_set']
theorem setG_touch (w : World) (mq : Nat) (g : GCells) : Touch (· = mq) w (setG w mq g) := by
  unfold setG
  iterate 9 (refine Touch.then_ ?_ (Touch.setCell _ _ _ rfl))
  exact Touch.refl _ _
theorem dset9 (dv : Value) (g0 g : GCells) : (((((((((dcells dv g0).setIfInBounds 1 (.bool g.d)).setIfInBounds 2 (.bool g.a)).setIfInBounds 3 (.slice g.pa g.pn g.pc)).setIfInBounds 4 (.int .i64 g.k)).setIfInBounds 5 (.int .i64 g.r)).setIfInBounds 6 (.bool g.laid)).setIfInBounds 7 (.int .i64 g.R)).setIfInBounds 8 (.int .i64 g.C)).setIfInBounds 9 (.int .i64 g.I) = dcells dv g := by
  unfold dcells; simp
theorem setG_blk {w : World} {mq : Nat} {dv : Value} {g0 : GCells} (h : Blk w mq 127 (dcells dv g0)) (g : GCells) : Blk (setG w mq g) mq 127 (dcells dv g) := by
  have := ((((((((h.set_ 1 (.bool g.d)).set_ 2 (.bool g.a)).set_ 3 (.slice g.pa g.pn g.pc)).set_ 4 (.int .i64 g.k)).set_ 5 (.int .i64 g.r)).set_ 6 (.bool g.laid)).set_ 7 (.int .i64 g.R)).set_ 8 (.int .i64 g.C)).set_ 9 (.int .i64 g.I)
  rw [dset9] at this
  exact this
/-- A new gate is laid over a disk's. -/
theorem World1.gate {w : World} {h dg wg mg q p mq mp : Nat} {Av : Nat → Prop} {X Y : Wnd} {S T : Drv} (hT : World1 w h Av dg wg mg q p mq mp X S Y T) (hh : h ≤ w.heap.size) :
    ∃ g, GateIn w mq Y g ∧ ∀ (w1 : World) (g' : GCells) (Y' : Wnd), Below w.heap.size w w1 → GateOf Y' g' → (w1.ownsRow w.heap.size 181 2 (.slice g'.pa g'.pn g'.pc) g'.pn (planCells Y'.plan) ∨ g'.pa = g.pa ∧ g'.pn = g.pn ∧ g'.pc = g.pc ∧ Y'.plan = Y.plan) →
      World1 (setG w1 mq g') h Av dg wg mg q p mq mp X S Y' T ∧ Touch (fr h Av) w (setG w1 mq g') := by
  obtain ⟨F1, F2, a, b, r, h1, h2, hno, hr, hd, hl⟩ := hT
  obtain ⟨FG, FM, hk, hF⟩ := b
  obtain ⟨g, hg, hq, hpl⟩ := hk.gt
  refine ⟨g, ⟨hg.of, hg.head.cell 1, hg.head.cell 2, hg.head.cell 3, hg.head.cell 4, hg.head.cell 5, hg.head.cell 6, hg.head.cell 7, hg.head.cell 8, hg.head.cell 9, hg.head.frozen, hg.head.lt⟩, fun w1 g' Y' hb hof hrow => ?_⟩
  have hhd := hg.head.below hb hg.head.lt
  have ht : Touch FG w (setG w1 mq g') := (Touch.of_below hb).then_ ((setG_touch w1 mq g').mono fun k _ e => by rw [e]; exact hq)
  have hgt : Gt (setG w1 mq g') mq (.pointer (some ⟨mp, 0, none⟩)) Y' (grow FG w (setG w1 mq g')) := by
    refine ⟨g', ⟨setG_blk hhd g', hof, ?_⟩, .inl hq, fun k e => ?_⟩
    · rcases hrow with hrow | ⟨e1, e2, e3, e4⟩
      · exact ownsRow_base_a (ownsRow_keep hrow fun k e => (setG_touch w1 mq g').block k (hrow.lt k e).2 (fun e2 => own_blk_ne hrow hhd (by decide) (by rw [e, e2]))) (Nat.zero_le _)
      · have := ownsRow_below hg.plan hb
        rw [e1, e2, e3, e4]
        exact ownsRow_keep this fun k e => (setG_touch w1 mq g').block k (this.lt k e).2 (fun e2 => own_blk_ne this hhd (by decide) (by rw [e, e2]))
    · rcases hrow with hrow | ⟨e1, e2, e3, e4⟩
      · exact .inr ⟨(hrow.lt k e).1, by rw [setG_size]; exact (hrow.lt k e).2⟩
      · rw [e1, e2, e3] at e; exact .inl (hpl k e)
  obtain ⟨k1, k2⟩ := hk.gate hF hgt ht
  exact World1.set_disk hh a r h1 h2 hno hr hd hl k1 k2
end Go.Proofs.YtdmcjomcbhdcbaaGreat

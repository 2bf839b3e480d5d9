/- LabelAtomic: a turn whatever its label (pure); the wound, the row and the box of a round. -/
import Derived.Test.YtdiaihpilniikaaGreatZiJ
import Derived.Test.YtdiaihpilniikaaGreatM18
namespace Go.Proofs.YtdiaihpilniikaaGreat
open Go.RowKit Go.Maps

/-- Inside a round: the wound, the box. -/
structure Ct1 (h q p g : Nat) (cs : Array Value) (may : List Lab) (mv : Value) (X : Wnd) (S : Drv) (w w' : World) : Prop where
  ts : TS h q p [g] may mv X S w'
  bel : Below h w w'
  box : Blk w' g 61 cs
  hh : h ≤ w'.heap.size
theorem Ct1.step {h q p g : Nat} {cs : Array Value} {may : List Lab} {mv : Value} {X Y : Wnd} {S T : Drv} {w w1 : World} {P : Program} {fn : Nat} {args : Array Value} {E : Ending → World → Prop} (hc1 : Ct1 h q p g cs may mv X S w w1)
    (hc : ∀ F : Nat → Prop, WD w1 q p X S F → (∀ k, F k → h ≤ k ∧ k < w1.heap.size) → Calls P fn args w1 fun e w' => E e w' ∧ WD w' q p Y T (grow F w1 w') ∧ Touch F w1 w') :
    Calls P fn args w1 fun e w' => E e w' ∧ Ct1 h q p g cs may mv Y T w w' := by
  refine (hc1.ts.step hc1.hh fun F a b _ => hc F a b).mono ?_
  rintro e w' ⟨he, hs, hb, hk⟩
  exact ⟨he, hs, hc1.bel.trans hb, (hk g (by simp)).trans hc1.box, Nat.le_trans hc1.hh hb.size⟩
theorem Ct1.look {h q p g : Nat} {cs : Array Value} {may : List Lab} {mv : Value} {X : Wnd} {S : Drv} {w w1 : World} {P : Program} {fn : Nat} {args : Array Value} {E : Ending → World → Prop} (hc1 : Ct1 h q p g cs may mv X S w w1)
    (hc : ∀ F : Nat → Prop, WD w1 q p X S F → Calls P fn args w1 E) : Calls P fn args w1 E := hc1.ts.look hc
theorem Ct1.below {h q p g : Nat} {cs : Array Value} {may : List Lab} {mv : Value} {X : Wnd} {S : Drv} {w w1 w2 : World} (hc1 : Ct1 h q p g cs may mv X S w w1) (hb : Below w1.heap.size w1 w2) : Ct1 h q p g cs may mv X S w w2 :=
  ⟨hc1.ts.below hb, hc1.bel.trans (hb.mono hc1.hh), hc1.box.below hb hc1.box.lt, Nat.le_trans hc1.hh hb.size⟩
theorem Ct1.among {h q p g : Nat} {cs : Array Value} {may : List Lab} {mv : Value} {X : Wnd} {S : Drv} {w w1 : World} {c N : Nat} {nn : Bool} (hc1 : Ct1 h q p g cs may mv X S w w1) (hC : Calm X) (hK : Kept X S c N 1048576) (hc : c ≤ 1152921504606846976) (hN : N ≤ 2199023254000) (hP : Pm may nn labN (S.shows labN)) (hl : ∀ l ∈ may, l.st.length = 8 ∧ l.may = 0) (hlen : may.length ≤ 3000) :
    Calls Tryz.prog 24 #[.pointer (some ⟨q, 0, none⟩), mv, .bool nn] w1 fun e w' => e = .returned (.bool true) ∧ Ct1 h q p g cs may mv X.count S w w' := by
  refine (among_ok hc1.ts hc1.hh hC hK hc hN hP hl hlen).mono ?_
  rintro e w' ⟨he, hs, hb, hk⟩
  exact ⟨he, hs, hc1.bel.trans hb, (hk g (by simp)).trans hc1.box, Nat.le_trans hc1.hh hb.size⟩

section
variable {h q p : Nat} {O : List Nat} {may : List Lab} {mv : Value} {X Y : Wnd} {S T : Drv} {w w' : World}
/-- A call of the wound. -/
theorem TS.stepO {P : Program} {fn : Nat} {args : Array Value} {E : Ending → World → Prop} (hs : TS h q p O may mv X S w) (hh : h ≤ w.heap.size)
    (hc : ∀ F : Nat → Prop, WD w q p X S F → (∀ k, F k → h ≤ k ∧ k < w.heap.size) → (∀ b, mv.ownBlock = some b → ¬F b) → (∀ b ∈ O, ¬F b) → Calls P fn args w fun e w' => E e w' ∧ WD w' q p Y T (grow F w w') ∧ Touch F w w') :
    Calls P fn args w fun e w' => E e w' ∧ TS h q p O may mv Y T w' ∧ Below h w w' ∧ ∀ b ∈ O, w'.heap[b]? = w.heap[b]? := by
  obtain ⟨F, a, b, c, d, e⟩ := hs.ex
  refine (hc F a b d fun k hk => (e k hk).1).mono ?_
  rintro en w' ⟨he, hw, ht⟩
  have hsz := ht.size
  refine ⟨he, ⟨grow F w w', hw, fun k hk => ?_, ownsRow_keep c fun k hk => ht.block k (c.lt k hk).2 (d k hk), fun g hg hf => ?_, fun g hg => ⟨fun hf => ?_, by have := (e g hg).2; omega⟩⟩, ht.below hh fun k hk => (b k hk).1, fun g hg => ht.block g (e g hg).2 (e g hg).1⟩
  · rcases hk with hk | hk
    · exact ⟨(b k hk).1, by have := (b k hk).2; omega⟩
    · exact ⟨by omega, hk.2⟩
  · rcases hf with hf | hf
    · exact d g hg hf
    · have := (c.lt g hg).2; omega
  · rcases hf with hf | hf
    · exact (e g hg).1 hf
    · have := (e g hg).2; omega
end

/-- What a turn does, whatever its label. -/
structure TurnOut (may : List Lab) (nn : Bool) (k : Nat) (X : Wnd) (S : Drv) (x : PTurn) (Y : Wnd) (T : Drv) (e : Int) (may' : List Lab) (nn' : Bool) : Prop where
  k2 : k ≤ 2000
  ahead : Kept (turnX X x.plan x.away x.fused x.call x.inside) S (7 * k) (7 * k) 1048576
  bad : x.lab.may ≠ 0 → e = x.lab.may ∧ Y = turnX X x.plan x.away x.fused x.call x.inside ∧ T = S ∧ may' = may ∧ nn' = nn
  good : x.lab.may = 0 → awrite (turnX X x.plan x.away x.fused x.call x.inside) S labN x.lab.bytes = (Y, T, e)
  ok : x.lab.may = 0 → e = 0 → may' = [x.lab] ∧ nn' = false ∧ T.shows labN = some x.lab.bytes
  no : x.lab.may = 0 → e ≠ 0 → may' = may ++ [x.lab] ∧ nn' = nn ∧ ¬(x.plan = [] ∧ x.away = false ∧ x.fused = false)
  kept : Kept Y T (7 * k + 5) (7 * k + 5) 1048576
  holds : Holds T (Pm may' nn')
  down : Y.lit = false → Y.down = false
  fuse : ∀ f, Y.fuse = some f → f.round = 0
  labs : ∀ l ∈ may', l.st.length = 8 ∧ l.may = 0
  len : may'.length ≤ k + 1
theorem turn_any {may : List Lab} {nn : Bool} {k : Nat} {X : Wnd} {S : Drv} {x : PTurn} (h : LAt may nn (7 * k) (7 * k) X S) (hk : k ≤ 2000) (hlen : may.length ≤ k) (hw : x.lab.Wf) (hp : x.plan.length ≤ 8796093021952) :
    ∃ Y T e may' nn', TurnOut may nn k X S x Y T e may' nn' := by
  have hK : Kept (turnX X x.plan x.away x.fused x.call x.inside) S (7 * k) (7 * k) 1048576 := ⟨turnX_okn h.kept.wnd x.plan hp _ _ _ _, h.kept.drv, h.kept.room⟩
  have hr : (7 * k + 5) * 1048576 ≤ 1152921504606846976 := by omega
  obtain ⟨f1, f2, f3, f4, f5, f6⟩ := turnX_facts X x.plan x.away x.fused x.call x.inside
  by_cases hm : x.lab.may = 0
  · obtain ⟨Y, T, e, hy⟩ : ∃ Y T e, awrite (turnX X x.plan x.away x.fused x.call x.inside) S labN x.lab.bytes = (Y, T, e) := ⟨_, _, _, rfl⟩
    obtain ⟨a, b, c, d, g⟩ := turn_law h hr x.plan hp x.away x.fused x.call x.inside x.lab hw.st hm hy
    by_cases he : e = 0
    · obtain ⟨a1, a2⟩ := a he
      exact ⟨Y, T, e, [x.lab], false, hk, hK, fun h => absurd hm h, fun _ => hy, fun _ _ => ⟨rfl, rfl, a2⟩, fun _ h => absurd he h, c, a1, d, g, fun l hl => by rw [List.mem_singleton.1 hl]; exact ⟨hw.st, hm⟩, by simp⟩
    · obtain ⟨b1, b2⟩ := b he
      refine ⟨Y, T, e, may ++ [x.lab], nn, hk, hK, fun h => absurd hm h, fun _ => hy, fun _ h => absurd h he, fun _ _ => ⟨rfl, rfl, b2⟩, c, b1, d, g, fun l hl => ?_, by simp; exact hlen⟩
      rcases List.mem_append.1 hl with hl | hl
      · exact h.labs l hl
      · rw [List.mem_singleton.1 hl]; exact ⟨hw.st, hm⟩
  · exact ⟨_, S, x.lab.may, may, nn, hk, hK, fun _ => ⟨rfl, rfl, rfl, rfl, rfl⟩, fun h => absurd h hm, fun h => absurd h hm, fun h => absurd h hm, hK.mono (by omega) (by omega) hr, h.holds, fun _ => f1.trans h.down, f5, h.labs, by omega⟩

section
variable {h q p g : Nat} {cs : Array Value} {may may' : List Lab} {mv : Value} {X Y V : Wnd} {S T : Drv} {w w1 w2 : World} {nn nn' : Bool} {k : Nat} {x : PTurn} {e : Int}
theorem write_turn (hc1 : Ct1 h q p g cs may mv (turnX X x.plan x.away x.fused x.call x.inside) S w w1) (ho : TurnOut may nn k X S x Y T e may' nn') (hw : x.lab.Wf) :
    Calls Tryz.prog 17 #[.iface 33 (.pointer (some ⟨q, 0, none⟩)), labV x.lab] w1 fun en w' => en = .returned (.int .i64 e) ∧ Ct1 h q p g cs may mv Y T w w' := by
  have hk := ho.k2
  by_cases hm : x.lab.may = 0
  · exact hc1.step fun F hd hF => lwritew_ok q p _ S F x.lab hw hm w1 (7 * k) (7 * k) 1048576 hd (fun k hk => (hF k hk).2) ho.ahead (by omega) (by omega) (by omega) Y T e (ho.good hm)
  · obtain ⟨rfl, rfl, rfl, rfl, rfl⟩ := ho.bad hm
    refine (lwritew_bad q x.lab hw hm w1).mono ?_
    rintro en w' ⟨he, hb⟩
    exact ⟨he, hc1.below hb⟩
/-- A new row of one label. -/
theorem Ct1.single (hc1 : Ct1 h q p g cs may mv X S w w1) (l : Lab) (hl : l.st.length = 8) : Ct1 h q p g cs [l] (.slice (some ⟨w1.heap.size, 0, none⟩) 1 1) X S w (w1.alloc (.cells (labCells l) 27)) := by
  have hb : Below w1.heap.size w1 (w1.alloc (.cells (labCells l) 27)) := (Below.refl _ w1).alloc (Nat.le_refl _) _
  obtain ⟨F, a, b, c, d, f⟩ := hc1.ts.ex
  have hb2 := hc1.below hb
  refine ⟨⟨F, WD.below a hb, fun k hk => ⟨(b k hk).1, Nat.lt_of_lt_of_le (b k hk).2 hb.size⟩, own_one l hl hc1.hh (Blk.new w1 _ _), fun k hk hf => ?_, fun k hk => ⟨(f k hk).1, Nat.lt_of_lt_of_le (f k hk).2 hb.size⟩⟩, hb2.bel, hb2.box, hb2.hh⟩
  have e : w1.heap.size = k := Option.some.inj hk
  have := (b k hf).2; omega
/-- The row grown by a label. -/
theorem Ct1.grown (hc1 : Ct1 h q p g cs may mv X S w w1) (hb : Below w1.heap.size w1 w2) {v' : Value} {w3 : World} (l : Lab) (ho : w3.ownsRow h 27 13 v' (may.length + 1) (labRow may ++ labRow [l])) (hg : w2.grownBy w3 mv.ownBlock) (hv : v'.ownBlock = mv.ownBlock ∨ v'.ownBlock = some w2.heap.size) (ht : 27 ≠ 61) (hbx : Blk w1 g 61 cs) :
    Ct1 h q p g cs (may ++ [l]) v' X S w w3 := by
  have hc2 := hc1.below hb
  obtain ⟨F0, a0, b0, c0, d0, f0⟩ := hc1.ts.ex
  have c2 := hc2.ts.row
  have hr : ∀ k, mv.ownBlock = some k → h ≤ k := fun k hk => (c2.lt k hk).1
  have htch : Touch (fun k => mv.ownBlock = some k) w2 w3 := Touch.of_grown hg fun k hk => hk
  have hsz := hg.size
  have hsz2 := hb.size
  refine ⟨⟨F0, (WD.below a0 hb).keep htch fun k hk hk2 => d0 k hk2 hk, fun k hk => ⟨(b0 k hk).1, by have := (b0 k hk).2; omega⟩, ?_, fun k hk hf => ?_, fun k hk => ⟨(f0 k hk).1, by have := (f0 k hk).2; omega⟩⟩, hc2.bel.grown hg hc2.hh hr, ?_, Nat.le_trans hc2.hh hsz⟩
  · rw [List.length_append, List.length_singleton]
    have e : labRow (may ++ [l]) = labRow may ++ labRow [l] := by rw [labRow_snoc, labRow_one]
    rw [e]; exact ho
  · rcases hv with hv | hv
    · exact d0 k (hv.symm.trans hk) hf
    · have e : w2.heap.size = k := Option.some.inj (hv.symm.trans hk)
      have := (b0 k hf).2; omega
  · exact hc2.box.grown hg fun e => own_blk_ne c2 hc2.box ht e.symm
/-- 'among' one label. -/
theorem Ct1.among1 (hc1 : Ct1 h q p g cs may mv X S w w1) (hC : Calm X) (hok : X.Ok) (hsm : S.Small) (l : Lab) (hl : l.st.length = 8) (hm : l.may = 0) (hs : S.shows labN = some l.bytes) :
    Calls Tryz.prog 24 #[.pointer (some ⟨q, 0, none⟩), .slice (some ⟨w1.heap.size, 0, none⟩) 1 1, .bool false] (w1.alloc (.cells (labCells l) 27)) fun e w' => e = .returned (.bool true) ∧ Ct1 h q p g cs may mv X.count S w w' := by
  have hb : Below w1.heap.size w1 (w1.alloc (.cells (labCells l) 27)) := (Below.refl _ w1).alloc (Nat.le_refl _) _
  have hc2 := hc1.below hb
  have hone := own_one l hl hc1.hh (Blk.new w1 27 (labCells l))
  have hread := read_shows S
  rw [hs] at hread
  have hsz : (w1.alloc (.cells (labCells l) 27)).heap.size = w1.heap.size + 1 := by simp
  have h2 : TS h q p (w1.heap.size :: [g]) may mv X S (w1.alloc (.cells (labCells l) 27)) := hc1.ts.out hb (Nat.le_refl _) (by rw [hsz]; omega)
  refine (h2.stepO hc2.hh (E := fun e _ => e = .returned (.bool true)) (Y := X.count) (T := S) fun F hd hF hnF hO => ?_).mono ?_
  · refine (among_some q p X X.count S F l.bytes w1.heap.size 1 1 [l] l 0 false _ hd (fun k hk => (hF k hk).2) hok hsm (by rw [hC.read]; show (X.count, (S.read labN).1, (S.read labN).2) = _; rw [hread]) (by rw [l.bytes_length hl]; decide) (Lab.parse_bytes l hl hm) (fun m hm => by rw [List.mem_singleton.1 hm]; exact hl) rfl (Reads.of_own hone) (hO _ (by simp)) (by decide) rfl (fun k m hk => by omega)).mono ?_
    rintro e w' ⟨he, hw, ht⟩
    exact ⟨he, hw.mono fun k hk => .inl hk, ht⟩
  · rintro e w' ⟨he, hs', hb', hk⟩
    refine ⟨he, ?_, hc2.bel.trans hb', (hk g (by simp)).trans hc2.box, Nat.le_trans hc2.hh hb'.size⟩
    obtain ⟨F, a, b, c, d, f⟩ := hs'.ex
    exact ⟨F, a, b, c, d, fun x hx => f x (List.mem_cons_of_mem _ hx)⟩
end

/-- The wound behind a turn's writing. -/
structure Vok (Y V : Wnd) (k : Nat) : Prop where
  okn : V.Okn (7 * k + 6)
  calm : Y.lit = false → Calm V
  away : V.away = false
  plan : V.plan = []
  fuse : V.fuse = none
section
variable {h q p g : Nat} {cs : Array Value} {may may' : List Lab} {mv : Value} {X Y V : Wnd} {S T : Drv} {w w1 : World} {nn nn' : Bool} {k : Nat} {x : PTurn} {e : Int}
theorem TurnOut.vok (ho : TurnOut may nn k X S x Y T e may' nn') : Vok Y (turnY Y) k := by
  obtain ⟨c1, c2⟩ := turn_calm (Y := Y) true ho.down ho.fuse
  have e : turnZ Y true = { turnY Y with down := false } := by unfold turnZ; rw [if_pos (.inr rfl)]
  rw [e] at c1
  exact ⟨(turnY_okn ho.kept.wnd).mono (by omega), c2, c1.away, c1.plan, c1.fuse⟩
theorem TurnOut.vok1 (ho : TurnOut may nn k X S x Y T e may' nn') (hl : Y.lit = false) : Vok Y (turnY Y).count k := by
  have hc := (ho.vok.calm hl).count
  exact ⟨(turnY_okn ho.kept.wnd).cnt (turnY Y).down, fun _ => hc, hc.away, hc.plan, hc.fuse⟩
/-- Behind the turn. -/
structure Behind (may : List Lab) (nn : Bool) (k : Nat) (V : Wnd) (T : Drv) : Prop where
  calm : Calm V
  kept : Kept V T (7 * k + 6) (7 * k + 6) 1048576
  holds : Holds T (Pm may nn)
theorem TurnOut.behind (ho : TurnOut may nn k X S x Y T e may' nn') (hv : Vok Y V k) (hl : Y.lit = false) : Behind may' nn' k V T := by
  have hk := ho.k2
  exact ⟨hv.calm hl, ⟨hv.okn, ho.kept.drv.mono (by omega) (by rw [ho.kept.room]; omega), ho.kept.room⟩, ho.holds⟩
theorem TurnOut.lost (ho : TurnOut may nn k X S x Y T e may' nn') (hv : Vok Y V k) (dirs : List Bool) (cuts : List Int) : Behind may' nn' k { ({ V with down := !false } : Wnd) with down := !true } (T.crash dirs cuts) := by
  have hk := ho.k2
  have hI := Drv.crash_inv ho.kept.drv dirs cuts
  have hrm : (T.crash dirs cuts).room = 1048576 := ho.kept.room
  exact ⟨⟨rfl, hv.away, hv.plan, hv.fuse⟩, ⟨(hv.okn.down _).down _, hI.mono (by omega) (by rw [hrm]; omega), hrm⟩, ho.holds.crash ho.kept.drv dirs cuts⟩
theorem Behind.next (hb : Behind may nn k V T) (hk : k ≤ 2000) (hl : ∀ l ∈ may, l.st.length = 8 ∧ l.may = 0) : LAt may nn (7 * (k + 1)) (7 * (k + 1)) V.count T :=
  ⟨⟨(hb.kept.wnd.cnt V.down).mono (by omega), hb.kept.drv.mono (by omega) (by rw [hb.kept.room]; omega), hb.kept.room⟩, hb.holds, hb.calm.down, hl⟩
theorem Ct1.drv (hc1 : Ct1 h q p g cs may mv X S w w1) : w1.cell? ⟨q, 0, none⟩ = some (.pointer (some ⟨p, 0, none⟩)) := by
  obtain ⟨F, a, _⟩ := hc1.ts.ex
  exact head_cell a.wn
end
end Go.Proofs.YtdiaihpilniikaaGreat

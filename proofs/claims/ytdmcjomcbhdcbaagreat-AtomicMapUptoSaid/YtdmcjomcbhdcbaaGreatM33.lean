/- The wound's own methods, and the disk's, in a world of one drive. No condition.; A round's end, in a world of one drive.; The document's drive, walked: Crash. -/
import Derived.Test.YtdmcjomcbhdcbaaGreatM32
import Derived.Test.YtdmcjomcbhdcbaaGreatM29
import Derived.Test.YtdmcjomcbhdcbaaGreatM24
set_option linter.unusedVariables false
namespace Go.Proofs.YtdmcjomcbhdcbaaGreat
open Go.RowKit Go.Maps

theorem WD.call {W : World} {q p : Nat} {X : Wnd} {S T : Drv} {F : Nat → Prop} {f : FuncId} {ar : Array Value} {R : Ending → World → Prop} (h : WD W q p X S F)
    (hc : ∀ FD, Dr W p S FD → (∀ k, FD k → F k) → Calls Tryz.prog f ar W fun e w' => R e w' ∧ Dr w' p T (grow FD W w') ∧ Touch FD W w') :
    Calls Tryz.prog f ar W fun e w' => R e w' ∧ WD w' q p X T (grow F W w') ∧ Touch F W w' := by
  obtain ⟨FW, FD, hA, hF⟩ := h
  refine (hc FD hA.dr fun k hk => hF k (.inr hk)).mono ?_
  rintro e w' ⟨he, h1, ht⟩
  refine ⟨he, ⟨_, _, hA.drive h1 ht, fun k hk => ?_⟩, ht.mono fun k _ hk => hF k (.inr hk)⟩
  rcases hk with hk | hk | hk
  · exact .inl (hF k (.inl hk))
  · exact .inl (hF k (.inr hk))
  · exact .inr hk
section
variable {w : World} {h dg wg mg q p mq mp : Nat} {Av : Nat → Prop} {X Y : Wnd} {S T : Drv}
theorem World1.wd (hT : World1 w h Av dg wg mg q p mq mp X S Y T) : ∃ F, WD w q p X S F := by obtain ⟨F1, F2, a, b, _⟩ := hT; exact ⟨F1, a⟩
theorem World1.dk (hT : World1 w h Av dg wg mg q p mq mp X S Y T) : ∃ F, DK w mq mp Y T F := by obtain ⟨F1, F2, a, b, _⟩ := hT; exact ⟨F2, b⟩
theorem World1.md (hT : World1 w h Av dg wg mg q p mq mp X S Y T) : ∃ F, Md w mp T F := by obtain ⟨F1, F2, a, ⟨FG, FM, b, _⟩, _⟩ := hT; exact ⟨FM, b.md⟩
/-- A step of the wound alone. -/
theorem World1.wnd1 {f : FuncId} {ar : Array Value} {R : Ending → World → Prop} {X' : Wnd} {S' : Drv} (hT : World1 w h Av dg wg mg q p mq mp X S Y T) (hh : h ≤ w.heap.size)
    (hc : ∀ F, WD w q p X S F → (∀ k, F k → h ≤ k ∧ k < w.heap.size) → (∀ k, Av k → ¬F k) → Calls Tryz.prog f ar w fun e w' => R e w' ∧ WD w' q p X' S' (grow F w w') ∧ Touch F w w') :
    Calls Tryz.prog f ar w fun e w' => R e w' ∧ World1 w' h Av dg wg mg q p mq mp X' S' Y T ∧ Touch (fr h Av) w w' :=
  hT.on_wound hh fun F hd h1 h2 => (hc F hd h1 h2).mono fun e w' ⟨he, a, b⟩ => ⟨_, _, a, b, fun k1 k2 => ⟨he, k1, k2⟩⟩
theorem World1.dsk1 {f : FuncId} {ar : Array Value} {R : Ending → World → Prop} {Y' : Wnd} {T' : Drv} (hT : World1 w h Av dg wg mg q p mq mp X S Y T) (hh : h ≤ w.heap.size)
    (hc : ∀ F, DK w mq mp Y T F → (∀ k, F k → h ≤ k ∧ k < w.heap.size) → (∀ k, Av k → ¬F k) → Calls Tryz.prog f ar w fun e w' => R e w' ∧ DK w' mq mp Y' T' (grow F w w') ∧ Touch F w w') :
    Calls Tryz.prog f ar w fun e w' => R e w' ∧ World1 w' h Av dg wg mg q p mq mp X S Y' T' ∧ Touch (fr h Av) w w' :=
  hT.on_disk hh fun F hd h1 h2 => (hc F hd h1 h2).mono fun e w' ⟨he, a, b⟩ => ⟨_, _, a, b, fun k1 k2 => ⟨he, k1, k2⟩⟩
end

section
variable {w : World} {h dg wg mg q p mq mp : Nat} {Av : Nat → Prop} {X Y : Wnd} {S T : Drv} {k N r : Nat}
theorem KeptM.small (hK : KeptM X S k N r) : S.Small := hK.k.drv.small (by have := hK.k.drv.rooms; omega)
theorem wimage1 (hT : World1 w h Av dg wg mg q p mq mp X S Y T) (hK : KeptM X S k N r) : Calls Tryz.prog 11 #[.pointer (some ⟨p, 0, none⟩)] w fun e w' => ∃ v, e = .returned v ∧ FilesAt w' w.heap.size v S.image ∧ Below w.heap.size w w' := by
  obtain ⟨F, FW, FD, hA, _⟩ := hT.wd
  obtain ⟨addr, hd⟩ := hA.dr
  exact image_any p S addr FD w hd hK.small hK.k.drv.fnow
theorem wrest1 (hT : World1 w h Av dg wg mg q p mq mp X S Y T) (hh : h ≤ w.heap.size) (hX : X.Ok) (off : Bool) : Calls Tryz.prog 12 #[.pointer (some ⟨q, 0, none⟩), .bool off] w fun e w' => e = .returned (.tuple #[]) ∧ World1 w' h Av dg wg mg q p mq mp (X.rest off) S Y T ∧ Touch (fr h Av) w w' :=
  hT.wnd1 hh fun F hd _ _ => wrest_any q p X S F off w hd hX
theorem wpower1 (hT : World1 w h Av dg wg mg q p mq mp X S Y T) (hh : h ≤ w.heap.size) (on : Bool) : Calls Tryz.prog 14 #[.pointer (some ⟨q, 0, none⟩), .bool on] w fun e w' => e = .returned (.tuple #[]) ∧ World1 w' h Av dg wg mg q p mq mp { X with down := !on } S Y T ∧ Touch (fr h Av) w w' :=
  hT.wnd1 hh fun F hd _ _ => wpower_any q p X S F on w hd
theorem wcrash1 (hT : World1 w h Av dg wg mg q p mq mp X S Y T) (hh : h ≤ w.heap.size) (hK : KeptM X S k N r) (pr : Option Addr) (nd cr : Nat) (dirs : List Bool) (pc : Option Addr) (nc cc : Nat) (cuts : List Int)
    (hr : Reads w w.heap.size 1 pr nd (dirs.map boolV)) (hc : Reads w w.heap.size 1 pc nc (cuts.map intV)) (hrs : ∀ ad, pr = some ad → 0 < nd → ad.spot = none) (hcs : ∀ ad, pc = some ad → 0 < nc → ad.spot = none) (hnd : nd ≤ 140737488351232) (hnc : nc ≤ 140737488351232) :
    Calls Tryz.prog 13 #[.pointer (some ⟨p, 0, none⟩), .agg #[.slice pr nd cr, .slice pc nc cc]] w fun e w' => e = .returned (.int .i64 0) ∧ World1 w' h Av dg wg mg q p mq mp X (S.crash dirs cuts) Y T ∧ Touch (fr h Av) w w' :=
  hT.wnd1 hh fun F hd _ _ => wcrashd_any q p X S N F pr nd cr dirs pc nc cc cuts w hd hK.k.drv (by have := hK.k.drv.rooms; omega) hr hc hrs hcs hnd hnc
/- The disk's. -/
theorem mstruck1 (hT : World1 w h Av dg wg mg q p mq mp X S Y T) : Calls Tryz.prog 52 #[.pointer (some ⟨mq, 0, none⟩)] w fun e w' => e = .returned (.bool Y.lit) ∧ Below w.heap.size w w' := by
  obtain ⟨F, hd⟩ := hT.dk; exact dstruck_any mq mp Y T F w hd
theorem mrest1 (hT : World1 w h Av dg wg mg q p mq mp X S Y T) (hh : h ≤ w.heap.size) (hX : Y.Ok) (off : Bool) : Calls Tryz.prog 94 #[.pointer (some ⟨mq, 0, none⟩), .bool off] w fun e w' => e = .returned (.tuple #[]) ∧ World1 w' h Av dg wg mg q p mq mp X S (Y.rest off) T ∧ Touch (fr h Av) w w' :=
  hT.dsk1 hh fun F hd _ _ => drest_any mq mp Y T F off w hd hX
theorem mpower1 (hT : World1 w h Av dg wg mg q p mq mp X S Y T) (hh : h ≤ w.heap.size) (on : Bool) : Calls Tryz.prog 95 #[.pointer (some ⟨mq, 0, none⟩), .bool on] w fun e w' => e = .returned (.tuple #[]) ∧ World1 w' h Av dg wg mg q p mq mp X S { Y with down := !on } T ∧ Touch (fr h Av) w w' :=
  hT.dsk1 hh fun F hd _ _ => dpower_any mq mp Y T F on w hd
def removeW (X : Wnd) (S : Drv) (nm : Nm) : Wnd × Drv × Int := if lookE nm = 0 then aremove X S nm else (X, S, 91)
theorem removeW_keptM (h : KeptM X S k N r) (nm : Nm) (hr : N + 2 ≤ 1073741824) : KeptM (removeW X S nm).1 (removeW X S nm).2.1 (k + 2) (N + 2) r := by
  unfold removeW
  split
  · exact aremove_keptM h nm hr
  · exact h.mono (by omega) (by omega) hr
theorem sweep1 (hT : World1 w h Av dg wg mg q p mq mp X S Y T) (hh : h ≤ w.heap.size) (hK : KeptM X S k N r) (hk : k + 3 ≤ 1152921504606846976) (hN : N + 3 ≤ 1073741824) :
    Calls Tryz.prog 21 #[.iface 40 (.pointer (some ⟨q, 0, none⟩))] w fun e w' => e = .returned (.tuple #[.int .i64 (asweep X S).2.2.1, .int .i64 (asweep X S).2.2.2]) ∧ World1 w' h Av dg wg mg q p mq mp (asweep X S).1 (asweep X S).2.1 Y T ∧ Touch (fr h Av) w w' :=
  hT.wnd1 hh fun F hd _ _ => asweep_any q p X S F w k N r hd hK hk hN
theorem remove1 (hT : World1 w h Av dg wg mg q p mq mp X S Y T) (hh : h ≤ w.heap.size) (hK : KeptM X S k N r) (hk : k + 2 ≤ 1152921504606846976) (hN : N + 2 ≤ 1073741824) (nm : Nm) (hnm : nm.length ≤ maxLen) :
    Calls Tryz.prog 16 #[.iface 40 (.pointer (some ⟨q, 0, none⟩)), .string ⟨nm.toArray⟩] w fun e w' => e = .returned (.int .i64 (removeW X S nm).2.2) ∧ World1 w' h Av dg wg mg q p mq mp (removeW X S nm).1 (removeW X S nm).2.1 Y T ∧ Touch (fr h Av) w w' := by
  unfold removeW
  by_cases hl : lookE nm = 0
  · rw [if_pos hl]
    have h2 := wremove_keptM hK nm (by omega)
    exact hT.wnd1 hh fun F hd _ _ => aremove_any q p X S F nm w hd hnm hl (hK.k.wnd.ok (by omega)) hK.small (h2.k.wnd.ok (by omega)) h2.small
  · rw [if_neg hl]
    refine (remove_bad ⟨q, 0, none⟩ nm hnm hl w).mono ?_
    rintro e w' ⟨rfl, hb⟩
    exact ⟨rfl, hT.below hb, Touch.of_below hb⟩
end
end Go.Proofs.YtdmcjomcbhdcbaaGreat
namespace Go.Proofs.YtdmcjomcbhdcbaaGreat
open Go.RowKit Go.Maps

set_option maxRecDepth 100000 in
set_option maxHeartbeats 4000000 in
theorem refrest_any (w : World) (h dg wg mg q p mq mp mc : Nat) (Av : Nat → Prop) (X Y : Wnd) (S T : Drv) (hT : World1 w h Av dg wg mg q p mq mp X S Y T) (hh : h ≤ w.heap.size) (hY : Y.Ok) (hc : 1 ≤ mc) :
    Calls Tryz.prog 53 #[.slice (some ⟨mg, 0, none⟩) 1 mc] w fun e w' => e = .returned (.tuple #[]) ∧ World1 w' h Av dg wg mg q p mq mp X S (Y.rest Y.lit) T ∧ Touch (fr h Av) w w' := by
  obtain ⟨l, hl⟩ : ∃ l, l = Y.lit := ⟨_, rfl⟩
  rw [← hl]
  have HS : Hid (∀ W, Below w.heap.size w W → Calls Tryz.prog 52 #[.pointer (some ⟨mq, 0, none⟩)] W fun e w' => e = .returned (.bool l) ∧ Below w.heap.size W w') := Lib.hid fun W hW => by
    refine (mstruck1 (hT.below hW)).mono ?_
    rintro e w' ⟨he, hb⟩
    exact ⟨by rw [hl]; exact he, hb.mono hW.size⟩
  have HC : Hid (∀ W, Below w.heap.size w W → W.cell? ⟨mg, 0, none⟩ = some (.pointer (some ⟨mq, 0, none⟩))) := Lib.hid fun W hW => (hT.below hW).rows.m
  have HR : Hid (∀ W, Below w.heap.size w W → Calls Tryz.prog 94 #[.pointer (some ⟨mq, 0, none⟩), .bool l] W fun e w' => e = .returned (.tuple #[]) ∧ World1 w' h Av dg wg mg q p mq mp X S (Y.rest l) T ∧ Touch (fr h Av) w w') := Lib.hid fun W hW => by
    refine (mrest1 (hT.below hW) (Nat.le_trans hh hW.size) hY l).mono ?_
    rintro e w' ⟨he, h1, h2⟩
    exact ⟨he, h1, (Touch.of_below hW).then_ h2⟩
  have h01 : (0 : Int) < ((1 : Nat) : Int) := by omega
  clear hT hl hY
  go_enter Tryz.func53, Tryz.ntmps53
  go_wp2
  go_loopw [2, 3] (fun s2 s3 wr => (s3 = .int .i64 0 ∧ s2 = .bool false ∧ Below w.heap.size w wr) ∨ (s3 = .int .i64 1 ∧ s2 = .bool l ∧ Below w.heap.size w wr)) (fun _ s3 _ => 1 - (intOf s3).toNat)
  case atStart => exact .inl ⟨rfl, rfl, Below.refl _ _⟩
  case round =>
    rcases hrel with ⟨rfl, rfl, hb⟩ | ⟨rfl, rfl, hb⟩
    · have HB := Lib.hid hb
      have c0 := HC.out _ hb
      clear hb
      cases l
      all_goals
        go_wp2_with (go_at_call 52; refine (HS.out _ HB.out).mono ?_; rintro e w1 ⟨rfl, hb1⟩; have HB1 := Lib.hid (HB.out.trans hb1); clear hb1)
        exact ⟨.inr ⟨rfl, rfl, HB1.out⟩, by simp [intOf]⟩
    · have HB := Lib.hid hb
      clear hb
      go_wp2
      go_loopw [4] (fun s4 wr2 => (s4 = .int .i64 0 ∧ Below w.heap.size w wr2) ∨ (s4 = .int .i64 1 ∧ World1 wr2 h Av dg wg mg q p mq mp X S (Y.rest l) T ∧ Touch (fr h Av) w wr2)) (fun s4 _ => 1 - (intOf s4).toNat)
      case atStart => exact .inl ⟨rfl, HB.out⟩
      case round =>
        rcases hrel with ⟨rfl, hb⟩ | ⟨rfl, hT2, ht2⟩
        · have HB2 := Lib.hid hb
          have c0 := HC.out _ hb
          clear hb
          go_wp2_with (go_at_call 94; refine (HR.out _ HB2.out).mono ?_; rintro e w1 ⟨rfl, hT1, ht1⟩; have HT1 := Lib.hid hT1; have HTT1 := Lib.hid ht1; clear hT1 ht1)
          exact ⟨.inr ⟨rfl, HT1.out, HTT1.out⟩, by simp [intOf]⟩
        · have HT2 := Lib.hid hT2
          have HTT2 := Lib.hid ht2
          clear hT2 ht2
          go_wp2
          go_end0
          exact ⟨rfl, HT2.out, HTT2.out⟩

end Go.Proofs.YtdmcjomcbhdcbaaGreat
namespace Go.Proofs.YtdmcjomcbhdcbaaGreat
open Go.RowKit Go.Maps

set_option maxRecDepth 100000 in
set_option maxHeartbeats 8000000 in
theorem mcrash_any (p : Nat) (S : Drv) {N : Nat} (F : Nat → Prop) (pr : Option Addr) (nd cr : Nat) (dirs : List Bool) (pc : Option Addr) (nc cc : Nat) (cuts : List Int) (w : World) (hd : Md w p S F) (hI : S.Inv N) (hRf : S.Refs) (hft : FateIn w pr nd dirs pc nc cuts) :
    Calls Tryz.prog 114 #[.pointer (some ⟨p, 0, none⟩), .agg #[.slice pr nd cr, .slice pc nc cc]] w fun e w' => e = .returned (.int .i64 0) ∧ Md w' p (S.crash dirs cuts) (grow F w w') ∧ Touch F w w' := by
  obtain ⟨L, h, hF⟩ := hd
  obtain ⟨W, hW⟩ : ∃ W, W = w.alloc (.cells #[.slice pr nd cr, .slice pc nc cc] 30) := ⟨_, rfl⟩
  have hbW : Below w.heap.size w W := by rw [hW]; exact (Below.refl _ w).alloc (Nat.le_refl _) _
  have hWs : W.heap.size = w.heap.size + 1 := by rw [hW]; simp
  have HBX : Hid (Blk W w.heap.size 30 #[.slice pr nd cr, .slice pc nc cc]) := Lib.hid (by rw [hW]; exact Blk.new _ _ _)
  have HBW := Lib.hid hbW
  have hW3 : MdAt W p S L := h.keep fun k hk => hbW.block k (h.lt hk)
  have HH := Lib.hid hW3
  have hpl : p < W.heap.size := hW3.head.lt
  have c3 : W.cell? ⟨p, 3, none⟩ = some L.vk := hW3.head.cell 3
  obtain ⟨np, hnp⟩ : ∃ np, np = S.pending.length := ⟨_, rfl⟩
  obtain ⟨ac, cch, hvc, _⟩ := own_shape hW3.rows.chs
  have c4 : W.cell? ⟨p, 4, none⟩ = some (.slice ac np cch) := by have := hW3.head.cell 4; rw [this, hnp]; show some L.vc = _; rw [hvc]
  have HVC := Lib.hid hvc
  have HNP := Lib.hid hnp
  have HI := Lib.hid hI
  have HRF := Lib.hid hRf
  have HFT := Lib.hid hft
  have HFp : Hid (F p) := Lib.hid (hF p (.inl rfl))
  have hnpb : np ≤ 1099511627776 := by rw [hnp]; have := hI.pend; have := hI.rooms; omega
  obtain ⟨vk0, hvk0⟩ : ∃ v, v = L.vk := ⟨_, rfl⟩
  rw [← hvk0] at c3
  have HK0 : Hid (W.ownsRow 0 153 2 vk0 (dents (S.crashK dirs 0)).length (entCells (dents (S.crashK dirs 0)))) := Lib.hid (by rw [hvk0]; exact hW3.rows.kept)
  have HCL : Hid (∀ k, k < np → (S.pending.getD k []).length ≤ 4) := Lib.hid fun k hk => (hI.pok _ (getD_mem _ (by rw [← hnp]; exact hk))).1
  rw [hW] at c3 c4
  have HW := Lib.hid hW
  clear h hF hI hRf hft hvc hnp hbW hW3 hvk0 hW
  go_enter Tryz.func114, Tryz.ntmps114
  go_wp2
  rw [← HW.out] at c3 c4 ⊢
  go_loopw [5, 6] (fun d s wr => ∃ k : Nat, k ≤ np ∧ s = .int .i64 k ∧ wr.ownsRow 0 153 2 d (dents (S.crashK dirs k)).length (entCells (dents (S.crashK dirs k))) ∧ Below W.heap.size W wr) (fun _ s _ => np - (intOf s).toNat)
  case atStart => exact ⟨0, Nat.zero_le _, rfl, HK0.out, Below.refl _ _⟩
  case round =>
    obtain ⟨k, hk, rfl, hown, hbel⟩ := hrel
    have hsz : W.heap.size ≤ wr.heap.size := hbel.size
    obtain ⟨ad, cd, rfl, _⟩ := own_shape hown
    have y4 : wr.cell? ⟨p, 4, none⟩ = some (.slice ac np cch) := (hbel.cell (p := ⟨p, 4, none⟩) hpl).trans c4
    have HB := Lib.hid hbel
    have HO := Lib.hid hown
    obtain ⟨nD, hnD⟩ : ∃ n, n = (dents (S.crashK dirs k)).length := ⟨_, rfl⟩
    have HND := Lib.hid hnD
    obtain ⟨kf1, kf2, kf3, kf4⟩ := crashK_facts HI.out dirs k (by rw [← HNP.out]; exact hk)
    have HSD : Hid (Sound (S.crashK dirs k)) := Lib.hid ⟨kf2, kf3, kf1⟩
    have hnDb : nD ≤ 1073741824 := by
      rw [hnD, dents_length]
      have h2 := HI.out.skept
      have h3 : ((S.pending.take k).map puts).sum ≤ (S.pending.map puts).sum := by
        rw [List.map_take]; have e := congrArg List.sum (List.take_append_drop k (S.pending.map puts)); rw [List.sum_append] at e; omega
      have h4 := HI.out.rooms
      omega
    rw [← hnD] at hown ⊢
    clear hbel hown kf1 kf2 kf3 kf4 hnD
    by_cases hlt : k < np
    · obtain ⟨gc, rfl⟩ : ∃ gc, ac = some ⟨gc, 0, none⟩ := by
        obtain ⟨gp, _, hvp, _, _⟩ := HH.out.rows.chs.form (by rw [← HNP.out]; omega)
        rw [HVC.out] at hvp
        injection hvp with hvp
        exact ⟨gp, hvp⟩
      have hkp : k < S.pending.length := by rw [← HNP.out]; exact hlt
      obtain ⟨ach, cch2, hch, _⟩ := own_shape (HH.out.rows.chg k hkp)
      have x0W : W.cell? ⟨gc, k, none⟩ = some (.slice ach (S.pending.getD k []).length cch2) := by
        have h1 := HH.out.rows.chs.cells (g := gc) (by rw [HVC.out]; rfl) k (L.ch k) (by unfold MLay.ch; rw [List.getElem?_eq_getElem (by rw [HH.out.rows.lc]; exact hkp)]; simp [List.getD, HH.out.rows.lc, hkp])
        rw [← hch]
        simpa [add_plain] using h1
      have hgcl : gc < W.heap.size := World.block_lt_of_cell? W ⟨gc, k, none⟩ x0W
      have x0 : wr.cell? ⟨gc, k, none⟩ = some (.slice ach (S.pending.getD k []).length cch2) := (HB.out.cell (p := ⟨gc, k, none⟩) hgcl).trans x0W
      have hrowc : wr.ownsRow 0 153 2 (.slice ach (S.pending.getD k []).length cch2) (S.pending.getD k []).length (chgEnts (S.pending.getD k [])) := by rw [← hch]; exact ownsRow_below (HH.out.rows.chg k hkp) HB.out
      have hcl4 := HCL.out k hlt
      obtain ⟨C, hC⟩ : ∃ C, C = S.pending.getD k [] := ⟨_, rfl⟩
      rw [← hC] at x0 hrowc hcl4
      obtain ⟨m, hm⟩ : ∃ m, m = C.length := ⟨_, rfl⟩
      rw [← hm] at x0 hrowc hcl4
      have HRC := Lib.hid hrowc
      have HM := Lib.hid hm
      have HST : Hid (S.crashK dirs (k + 1) = if dirs.getD k false = true then applyC (S.crashK dirs k) C else S.crashK dirs k) := Lib.hid (by rw [hC]; rfl)
      have HOK : Hid (∀ x ∈ C, ∀ i, x.2 = some i → i ≤ 2199023255552) := Lib.hid fun x hx i hi => by
        have := HRF.out.pend C (by rw [hC]; exact getD_mem _ hkp) x hx i hi
        have := HRF.out.nb
        omega
      have hbx : Blk wr w.heap.size 30 #[.slice pr nd cr, .slice pc nc cc] := (HB.out.block _ (by omega)).trans HBX.out
      have x1 : wr.cell? ⟨w.heap.size, 0, none⟩ = some (.slice pr nd cr) := hbx.cell 0
      have hk0 : (0 : Int) ≤ (k : Int) := by omega
      have hk1 : (k : Int) < (np : Int) := by omega
      have HS2 : Hid (Sound (S.crashK dirs (k + 1))) := Lib.hid (by obtain ⟨a, b, c, _⟩ := crashK_facts HI.out dirs (k + 1) (by rw [← HNP.out]; omega); exact ⟨b, c, a⟩)
      clear hch x0W hrowc hC hm hbx hkp
      by_cases hkd : k < nd
      · obtain ⟨bv, hbv⟩ : ∃ b, dirs[k]? = some b := ⟨_, List.getElem?_eq_getElem (by have := HFT.out.r.1; simp at this; omega)⟩
        obtain ⟨ad2, hpr, hbl, hcl⟩ := HFT.out.r.2 (by omega)
        obtain ⟨gd, od, sp⟩ := ad2
        have hsp : sp = none := HFT.out.rs _ hpr (by omega)
        subst hsp
        subst hpr
        have hcd : w.cell? ⟨gd, od + k, none⟩ = some (.bool bv) := by
          have := hcl k (boolV bv) (by rw [List.getElem?_map, hbv]; rfl)
          rwa [add_plain] at this
        have x2 : wr.cell? ⟨gd, od + k, none⟩ = some (.bool bv) := ((HBW.out.trans (HB.out.mono (by omega))).cell (p := ⟨gd, od + k, none⟩) hbl).trans hcd
        have hgd : dirs.getD k false = bv := by simp [List.getD, hbv]
        rw [hgd] at HST
        have hkd2 : (k : Int) < (nd : Int) := by omega
        clear hcd hcl hbv hgd hbl
        cases bv with
        | false =>
          have HON : Hid (wr.ownsRow 0 153 2 (.slice ad nD cd) (dents (S.crashK dirs (k + 1))).length (entCells (dents (S.crashK dirs (k + 1))))) := Lib.hid (by
            rw [show S.crashK dirs (k + 1) = S.crashK dirs k from HST.out, ← HND.out]; have := HO.out; rw [← HND.out] at this; exact this)
          go_wp2
          go_roundw
          case rel => exact ⟨k + 1, by omega, by go_num, HON.out, HB.out⟩
          case measure => simp [intOf]; omega
        | true =>
          go_wp2_with (go_at_call 125; refine (made_any (S.crashK dirs k) (dents (S.crashK dirs k)) (dents_ents HSD.out) HSD.out.tidy (.slice ad nD cd) nD C (.slice ach m cch2) m _ HND.out.symm (by have := HO.out; rw [← HND.out] at this; exact this) HM.out.symm HRC.out (by omega) HOK.out).mono ?_; rintro e w2 ⟨v', l', rfl, he, ho, _, hb2, _⟩; have HE2 := Lib.hid he; have HO2 := Lib.hid ho; have HB2 := Lib.hid hb2; clear he ho hb2)
          go_roundw
          case rel =>
            have e1 : S.crashK dirs (k + 1) = applyC (S.crashK dirs k) C := HST.out
            have e2 : l' = dents (S.crashK dirs (k + 1)) := by rw [e1]; exact HE2.out.dents (by rw [← e1]; exact HS2.out)
            exact ⟨k + 1, by omega, by go_num, by rw [← e2]; exact HO2.out, HB.out.trans (HB2.out.mono hsz)⟩
          case measure => simp [intOf]; omega
      · have hgc : dirs.getD k false = false := by
          have := HFT.out.r.1; simp at this
          rw [List.getD, List.getElem?_eq_none (by omega)]; rfl
        rw [hgc] at HST
        have HON : Hid (wr.ownsRow 0 153 2 (.slice ad nD cd) (dents (S.crashK dirs (k + 1))).length (entCells (dents (S.crashK dirs (k + 1))))) := Lib.hid (by
          rw [show S.crashK dirs (k + 1) = S.crashK dirs k from HST.out, ← HND.out]; have := HO.out; rw [← HND.out] at this; exact this)
        clear hgc
        go_wp2
        go_roundw
        case rel => exact ⟨k + 1, by omega, by go_num, HON.out, HB.out⟩
        case measure => simp [intOf]; omega
    · have hkn : k = np := by omega
      subst hkn
      obtain ⟨wq, hwq⟩ : ∃ wq : World, wq = wr := ⟨_, rfl⟩
      rw [← hwq] at HB HO y4 hsz ⊢
      clear hwq
      obtain ⟨D, hD⟩ : ∃ D, D = S.crashK dirs k := ⟨_, rfl⟩
      rw [← hD] at HO HND HSD
      have HDD : Hid (D = S.crashK dirs S.pending.length) := Lib.hid (by rw [← HNP.out]; exact hD)
      have HMM : Hid (nD = (dnames D).length) := Lib.hid (by rw [HND.out, dents_length, dnames_length])
      have HOD : Hid (wq.ownsRow 0 153 2 (.slice ad nD cd) nD (entCells (dents D))) := Lib.hid (by have := HO.out; rw [← HND.out] at this; exact this)
      have HRD : Hid (∀ s i, dget D s = some i → i < S.bodies.length) := Lib.hid (by rw [hD]; exact crashK_refs HI.out HRF.out dirs k (by rw [← HNP.out]; exact Nat.le_refl _))
      have hplq : p < wq.heap.size := by omega
      have HHQ : Hid (MdAt wq p S L) := Lib.hid (HH.out.keep fun j hj => HB.out.block j (HH.out.lt hj))
      have HBWQ : Hid (Below w.heap.size w wq) := Lib.hid (HBW.out.trans (HB.out.mono (by omega)))
      have HBXQ : Hid (Blk wq w.heap.size 30 #[.slice pr nd cr, .slice pc nc cc]) := Lib.hid ((HB.out.block _ (by omega)).trans HBX.out)
      obtain ⟨i0, hi0, hz0, hz1, hz2⟩ := info_parts bodInfo
      obtain ⟨iE, hiE, hy0, hy1, hy2⟩ := info_parts entInfo
      clear hD HO c3 c4 HK0
      go_wp2
      go_loopw [7, 8, 9] (fun vb vn s wr => ∃ (j : Nat) (dat : List Value), j ≤ nD ∧ s = .int .i64 j ∧ CrJ wq.heap.size S D cuts wr vb vn j dat ∧ Below wq.heap.size wq wr) (fun _ _ s _ => nD - (intOf s).toNat)
      case atStart => exact ⟨0, [], Nat.zero_le _, rfl, CrJ.zero _ _ _ _ _, Below.refl _ _⟩
      case round =>
        obtain ⟨j, dat, hj, rfl, hcj, hbel⟩ := hrel
        have hszj : wq.heap.size ≤ wr.heap.size := hbel.size
        obtain ⟨ab, cb, rfl, _⟩ := own_shape hcj.bod
        obtain ⟨an, cn, rfl, _⟩ := own_shape hcj.ent
        have HCJ := Lib.hid hcj
        have HBJ := Lib.hid hbel
        have HWJ : Hid (Below w.heap.size w wr) := Lib.hid (HBWQ.out.trans (hbel.mono (by omega)))
        by_cases hltj : j < nD
        · obtain ⟨⟨nm, ib⟩, hti⟩ : ∃ x, (dents D)[j]? = some x := ⟨_, List.getElem?_eq_getElem (by rw [← HND.out]; exact hltj)⟩
          obtain ⟨b, rfl, hbl, x1, x2⟩ := row_pair HOD.out hti HND.out.symm
          simp only [strV] at x1
          simp only [intZ] at x2
          have hdg := ents_get (dents_ents HSD.out) hti
          have hib : ib < S.bodies.length := HRD.out nm ib hdg
          have HGN : Hid ((dnames D).getD j [] = nm) := Lib.hid (by
            have e := congrArg (Option.map (·.1)) hti
            rw [← List.getElem?_map, dents_fst] at e
            simp only [Option.map_some] at e
            simp [List.getD, e])
          obtain ⟨g, c, ai, ci, hv, hgl, hnc, hda, hci, z1, z2, _⟩ := bod_get HHQ.out.rows hib
          have hlen := HI.out.len ib
          have hsafe := HI.out.safe ib
          have hrd := HHQ.out.rows.data ib hib
          rw [hda] at hrd
          obtain ⟨li, hli⟩ : ∃ li, li = S.len ib := ⟨_, rfl⟩
          obtain ⟨sf, hsf⟩ : ∃ sf, sf = (S.body ib).safe := ⟨_, rfl⟩
          rw [← hsf] at z2 hsafe
          rw [← hli] at z1 hsafe hlen hci hrd
          obtain ⟨nb, hnb⟩ : ∃ nb, nb = S.bodies.length := ⟨_, rfl⟩
          have hnbl := HRF.out.nb
          rw [← hnb] at hnc hib hnbl
          have y1 : wr.cell? ⟨p, 1, none⟩ = some (.slice (some ⟨g, 0, none⟩) nb c) := by
            rw [(hbel.cell (p := ⟨p, 1, none⟩) hplq), HHQ.out.head.cell 1, hnb]; show some L.vb = _; rw [hv]
          have y2 : wr.cell? ⟨b, j * 2, none⟩ = some (.string ⟨nm.toArray⟩) := (hbel.cell (p := ⟨b, j * 2, none⟩) hbl).trans x1
          have y3 : wr.cell? ⟨b, j * 2 + 1, none⟩ = some (.int .i64 ib) := (hbel.cell (p := ⟨b, j * 2 + 1, none⟩) hbl).trans x2
          have y5 : wr.cell? ⟨g, ib * 2, none⟩ = some (.slice ai li ci) := (hbel.cell (p := ⟨g, ib * 2, none⟩) hgl).trans z1
          have y6 : wr.cell? ⟨g, ib * 2 + 1, none⟩ = some (.int .i64 sf) := (hbel.cell (p := ⟨g, ib * 2 + 1, none⟩) hgl).trans z2
          obtain ⟨z, hz⟩ : ∃ z : Int, z = min (max (cuts.getD j 0) 0) ((li : Int) - sf) := ⟨_, rfl⟩
          have hat : S.at_ D nm = S.body ib := by unfold Drv.at_; rw [hdg]; rfl
          obtain ⟨n, hn⟩ : ∃ n, n = S.cutN D cuts j := ⟨_, rfl⟩
          have hnv : (n : Int) = sf + z := by
            rw [hn, hz, hsf, hli]; unfold Drv.cutN; rw [HGN.out, hat]
            have e : ((S.body ib).data.length : Int) = S.len ib := rfl
            rw [e]
            omega
          have hnl : n ≤ li := by omega
          have HBD : Hid (S.crashBody D cuts j = ⟨(S.body ib).data.take n, n⟩) := Lib.hid (by unfold Drv.crashBody; rw [HGN.out, hat, ← hn])
          have HTL : Hid (((S.body ib).data.take n).length = n) := Lib.hid (by rw [List.length_take]; have : (S.body ib).data.length = S.len ib := rfl; omega)
          have HRB : Hid (∀ V, Below wq.heap.size wq V → Reads V V.heap.size 1 ai n (((S.body ib).data.take n).map B8)) := Lib.hid fun V hV => by
            have := (((Reads.of_own hrd).cutTo (m := n) hnl).below hV).more hV.size
            rw [← List.map_take] at this; exact this
          have HQ : Hid (∀ V, Below wq.heap.size wq V → V.cell? ⟨b, j * 2, none⟩ = some (.string ⟨nm.toArray⟩) ∧ V.cell? ⟨w.heap.size, 1, none⟩ = some (.slice pc nc cc)) := Lib.hid fun V hV => ⟨(hV.cell (p := ⟨b, j * 2, none⟩) hbl).trans x1, (hV.cell (p := ⟨w.heap.size, 1, none⟩) (by show w.heap.size < _; omega)).trans (HBXQ.out.cell 1)⟩
          have hi0' : (0 : Int) ≤ (ib : Int) := by omega
          have hi1' : (ib : Int) < (nb : Int) := by omega
          have hj0 : (0 : Int) ≤ (j : Int) := by omega
          have hj1 : (j : Int) < (nD : Int) := by omega
          have hgl' : g < wr.heap.size := by omega
          have hpl' : p < wr.heap.size := by omega
          have hbl' : b < wr.heap.size := by omega
          have HZ := Lib.hid hz
          have HNV := Lib.hid hnv
          clear hcj hbel hti x1 x2 hdg hv hda z1 z2 hrd hli hsf hnb hat hn hz hnv
          go_wp2
          go_region
          all_goals
            refine exit_world fun X hX => ?_
            have HBK : Hid (Blk X wr.heap.size 161 #[.slice ai li ci, .int .i64 sf]) := Lib.hid (by rw [hX]; exact Blk.new _ _ _)
            have HXB : Hid (Below wr.heap.size wr X) := Lib.hid (by rw [hX]; exact below_drew1 ((Below.refl _ _).alloc (Nat.le_refl _) _))
            have hXs : X.heap.size = wr.heap.size + 1 := by rw [hX]; simp
            clear hX y1 y2 y3 y5 y6
            have HQX : Hid (Below wq.heap.size wq X) := Lib.hid (HBJ.out.trans (HXB.out.mono hszj))
            have HWX : Hid (Below w.heap.size w X) := Lib.hid (HWJ.out.trans (HXB.out.mono (by omega)))
            have HCX : Hid (CrJ wq.heap.size S D cuts X (.slice ab j cb) (.slice an j cn) j dat) := Lib.hid (HCJ.out.below HXB.out)
            have k0 := HBK.out.cell 0
            have k1 := HBK.out.cell 1
            simp at k0 k1
            obtain ⟨v0, v1⟩ := HQ.out X HQX.out
            obtain ⟨c1, hc1⟩ : ∃ c1 : Int, c1 = max (cuts.getD j 0) 0 := ⟨_, rfl⟩
            have HC1 := Lib.hid hc1
            have hzc : z = min c1 ((li : Int) - sf) := by rw [hc1]; exact HZ.out
            have HZC := Lib.hid hzc
            have hc10 : 0 ≤ c1 := by omega
            clear hc1 hzc
            obtain ⟨bq, hbq⟩ : ∃ bq, bq = decide (0 < cuts.getD j 0) := ⟨_, rfl⟩
            have HBQ := Lib.hid hbq
            clear hbq
            have hcz : j < nc → ∃ gc2 oc cv, pc = some ⟨gc2, oc, none⟩ ∧ X.cell? ⟨gc2, oc + j, none⟩ = some (.int .i64 cv) ∧ cuts.getD j 0 = cv := fun hkc => by
              obtain ⟨cv, hcv⟩ : ∃ b, cuts[j]? = some b := ⟨_, List.getElem?_eq_getElem (by have := HFT.out.c.1; simp at this; omega)⟩
              obtain ⟨ad2, hpc, hbl2, hcl2⟩ := HFT.out.c.2 (by omega)
              obtain ⟨gc2, oc, sp⟩ := ad2
              have hsp : sp = none := HFT.out.cs _ hpc (by omega)
              subst hsp
              have hcd2 : w.cell? ⟨gc2, oc + j, none⟩ = some (.int .i64 cv) := by
                have := hcl2 j (intV cv) (by rw [List.getElem?_map, hcv]; rfl)
                rwa [add_plain] at this
              exact ⟨gc2, oc, cv, hpc, (HWX.out.cell (p := ⟨gc2, oc + j, none⟩) hbl2).trans hcd2, by simp [List.getD, hcv]⟩
            have hcn : ¬ j < nc → cuts.getD j 0 = 0 := fun hkc => by
              have := HFT.out.c.1; simp at this
              rw [List.getD, List.getElem?_eq_none (by omega)]; rfl
            have HCZ := Lib.hid hcz
            have HCN := Lib.hid hcn
            clear hcz hcn
            go_upto_region 16 with (fail)
            go_cut [77] (fun s77 wx => s77 = .bool bq ∧ wx = X)
            case first =>
              by_cases hkc : j < nc
              · obtain ⟨gc2, oc, cv, rfl, x2, hcv⟩ := HCZ.out hkc
                have hjc1 : (j : Int) < (nc : Int) := by omega
                have HBV : Hid (bq = decide (0 < cv)) := Lib.hid (by rw [HBQ.out, hcv])
                clear hcv
                go_wp2
                go_meet
                case rel => exact ⟨by rw [HBV.out], rfl⟩
              · have HBV : Hid (bq = false) := Lib.hid (by rw [HBQ.out, HCN.out hkc]; rfl)
                go_wp2
                go_meet
                case rel => exact ⟨by rw [HBV.out], rfl⟩
            case rest =>
              obtain ⟨rfl, rfl⟩ := hcut
              go_upto_if 77 with (fail)
              go_cut [11] (fun s11 wx => s11 = .int .i64 c1 ∧ wx = wc)
              case first =>
                cases bq with
                | true =>
                  have hkc : j < nc := by
                    apply Classical.byContradiction
                    intro h
                    have h1 := HBQ.out
                    rw [HCN.out h] at h1
                    cases h1
                  obtain ⟨gc2, oc, cv, rfl, x2, hcv⟩ := HCZ.out hkc
                  have hjc1 : (j : Int) < (nc : Int) := by omega
                  have e : c1 = cv := by
                    have h1 : 0 < cuts.getD j 0 := of_decide_eq_true HBQ.out.symm
                    rw [HC1.out, ← hcv]; omega
                  subst e
                  clear hcv
                  go_wp2
                  go_meet
                  case rel => exact ⟨rfl, rfl⟩
                | false =>
                  have e : c1 = 0 := by
                    have h1 : ¬ 0 < cuts.getD j 0 := of_decide_eq_false HBQ.out.symm
                    rw [HC1.out]; omega
                  subst e
                  go_wp2
                  go_meet
                  case rel => exact ⟨rfl, rfl⟩
              case rest =>
                obtain ⟨rfl, rfl⟩ := hcut
                have hw1 : IntKind.i64.wrap ((li : Int) - (sf : Int)) = (li : Int) - (sf : Int) := IntWalk.i64_in _ (by omega)
                go_upto_if 90 with (fail)
                go_cut [11] (fun s11 wx => s11 = .int .i64 z ∧ wx = wc)
                case first =>
                  by_cases hp : (li : Int) - sf < c1
                  · have e : z = (li : Int) - sf := by have := HZC.out; omega
                    subst e
                    go_wp2
                    go_meet
                    case rel => exact ⟨rfl, rfl⟩
                  · have e : z = c1 := by have := HZC.out; omega
                    subst e
                    go_wp2
                    go_meet
                    case rel => exact ⟨rfl, rfl⟩
                case rest =>
                  obtain ⟨rfl, rfl⟩ := hcut
                  have hnv := HNV.out
                  have hz0 : 0 ≤ z := by have := HZC.out; omega
                  have hw2 : IntKind.i64.wrap ((sf : Int) + z) = (n : Int) := by rw [IntWalk.i64_in _ (by omega)]; omega
                  have hn1 : n ≤ ci := by omega
                  have HM63 : Hid (j + 1 ≤ maxLen) := Lib.hid (by simp only [maxLen]; omega)
                  have HB32 : Hid ((j + 1) * 32 ≤ 140737488355328) := Lib.hid (by omega)
                  have HB24 : Hid ((j + 1) * 24 ≤ 140737488355328) := Lib.hid (by omega)
                  have hnb' : n ≤ 140737488351232 := by omega
                  have HXW : Hid (w.heap.size ≤ wc.heap.size) := Lib.hid (by omega)
                  have HKK : Hid (∀ V, Below wc.heap.size wc V → V.cell? ⟨wr.heap.size, 0, none⟩ = some (.slice ai li ci) ∧ V.cell? ⟨wr.heap.size, 1, none⟩ = some (.int .i64 sf)) := Lib.hid fun V hV => ⟨(hV.cell (p := ⟨wr.heap.size, 0, none⟩) (by show wr.heap.size < _; omega)).trans (HBK.out.cell 0), (hV.cell (p := ⟨wr.heap.size, 1, none⟩) (by show wr.heap.size < _; omega)).trans (HBK.out.cell 1)⟩
                  go_upto_region 20 with (fail)
                  clear hz0 hnv
                  go_region_held3 (fun w' => w'.cell? ⟨wr.heap.size, 0, none⟩ = some (.slice ai li ci) ∧ w'.cell? ⟨wr.heap.size, 1, none⟩ = some (.int .i64 sf)) (first | go_keep | exact HKK.out _ HB2.out | exact HKK.out _ (HBA.out _) | exact HBZ.out) ((first
                    | (go_at_call 88; refine (copied_any ai n ci ((S.body ib).data.take n) _ (HRB.out _ (below_drewN HQX.out _)) hnb').mono ?_; rintro e w2 ⟨v2, rfl, ho2, hb2⟩; obtain ⟨a2, c2', rfl, _⟩ := own_shape ho2; have HO2 : Hid (w2.ownsRow wc.heap.size 5 1 (.slice a2 n c2') n (((S.body ib).data.take n).map B8)) := Lib.hid ho2; have HB2 : Hid (Below wc.heap.size wc w2) := Lib.hid ⟨hb2.os, hb2.tape, hb2.output, hb2.size, hb2.block⟩; have hs2 : wc.heap.size ≤ w2.heap.size := hb2.size; have HBA : Hid (∀ o, Below wc.heap.size wc (w2.alloc o)) := Lib.hid (fun o => HB2.out.alloc hs2 o); clear ho2 hb2)
                    | (refine step_append_any _ rfl (.tmp 97) (.tmp 111) 154 rfl wq.heap.size 161 i0 _ 2 32 Tryz.underlying154 hi0 hz0 hz1 hz2 rfl (by omega) (.slice ab j cb) j _ (by rfl) ((ownsRow_below HCX.out.bod HB2.out).alloc _) (w2.heap.size + 1) (some ⟨w2.heap.size, 0, none⟩) 1 1 [.slice a2 n c2', .int .i64 n] (by rfl) (by exact reads_blk (t := 161) (blk_last _ _ _ _ rfl) (by omega) rfl) (by intro u hu; simp at hu; rcases hu with rfl | rfl <;> rfl) HM63.out HB32.out (by rw [alloc_size]; omega) ?_; intro v3 w3 hown3 hg3 hat3; obtain ⟨a4, c4, rfl, _⟩ := own_shape hown3; have HOWN3 := Lib.hid hown3; have HG3 : Hid ((w2.alloc (.cells #[.slice a2 n c2', .int .i64 n] 161)).grownBy w3 (Value.slice ab j cb).ownBlock) := Lib.hid hg3; have HK3 : Hid (Blk w3 wr.heap.size 161 #[.slice ai li ci, .int .i64 sf]) := Lib.hid (((HBK.out.below HB2.out (by omega)).alloc _).grown hg3 (fun e => (by have := (HCJ.out.bod.lt _ e.symm).2; omega))); have HBZ := Lib.hid (⟨HK3.out.cell 0, HK3.out.cell 1⟩ : w3.cell? ⟨wr.heap.size, 0, none⟩ = some (.slice ai li ci) ∧ w3.cell? ⟨wr.heap.size, 1, none⟩ = some (.int .i64 sf)); clear hown3 hg3 hat3)
                    | fail))
                  all_goals
                    refine exit_world fun Y hY => ?_
                    have HB2A : Hid (Below wc.heap.size wc (w2.alloc (.cells #[.slice a2 n c2', .int .i64 n] 161))) := Lib.hid (HBA.out _)
                    have HBY : Hid (Below wq.heap.size wq Y) := Lib.hid (by rw [hY]; exact ((HQX.out.trans (HB2A.out.mono (by omega)))).grown HG3.out (by rw [alloc_size]; omega) (fun q hq => (HCX.out.bod.lt q hq).1))
                    have HBOD : Hid (Y.ownsRow wq.heap.size 161 2 (.slice a4 (j + 1) c4) (j + 1) (bodCells dat ((List.range j).map (S.crashBody D cuts)) ++ [.slice a2 n c2', .int .i64 n])) := Lib.hid (by rw [hY]; exact HOWN3.out)
                    have hbod2 := (ownsRow_below HCX.out.bod HB2.out).alloc (.cells #[.slice a2 n c2', .int .i64 n] 161)
                    have HNEW : Hid (Y.ownsRow wq.heap.size 5 1 (.slice a2 n c2') n (((S.body ib).data.take n).map B8)) := Lib.hid (by rw [hY]; exact row_grown ((ownsRow_base_a HO2.out (by omega)).alloc _) hbod2 HG3.out (by decide))
                    have HOLD : Hid (∀ i, i < j → Y.ownsRow wq.heap.size 5 1 (dat.getD i (.slice none 0 0)) (S.crashBody D cuts i).data.length ((S.crashBody D cuts i).data.map B8)) := Lib.hid fun i hi => by rw [hY]; exact row_grown ((ownsRow_below (HCX.out.data i hi) HB2.out).alloc _) hbod2 HG3.out (by decide)
                    have HENT : Hid (Y.ownsRow wq.heap.size 153 2 (.slice an j cn) j (entCells (crEnts D j))) := Lib.hid (by rw [hY]; exact row_grown ((ownsRow_below HCX.out.ent HB2.out).alloc _) hbod2 HG3.out (by decide))
                    have hYs : wc.heap.size ≤ Y.heap.size := by
                      have h1 := HG3.out.size
                      have h2 := HB2A.out.size
                      rw [hY]; omega
                    obtain ⟨u0, u1⟩ := HQ.out Y HBY.out
                    have hbY : b < Y.heap.size := by omega
                    clear hY hbod2
                    go_wp2_with (at_builtin; refine wpList_append_any _ rfl (.tmp 113) (.tmp 121) 155 rfl wq.heap.size 153 iE _ 2 24 Tryz.underlying155 hiE hy0 hy1 hy2 rfl (by omega) (.slice an j cn) j _ (by rfl) (HENT.out.alloc _) (Y.heap.size + 1) (some ⟨Y.heap.size, 0, none⟩) 1 1 [.string ⟨nm.toArray⟩, .int .i64 j] (by rfl) (by exact reads_blk (t := 153) (blk_last _ _ _ _ rfl) (by omega) rfl) (by intro u hu; simp at hu; rcases hu with rfl | rfl <;> rfl) HM63.out HB24.out (by simp; omega) ?_; intro v4 w4 hown4 hg4 hat4; obtain ⟨a5, c5, rfl, _⟩ := own_shape hown4; have HOWN4 := Lib.hid hown4; have HG4 : Hid ((Y.alloc (.cells #[.string ⟨nm.toArray⟩, .int .i64 j] 153)).grownBy w4 (Value.slice an j cn).ownBlock) := Lib.hid hg4; clear hown4 hg4 hat4)
                    go_roundw
                    case rel =>
                      have hent2 := HENT.out.alloc (.cells #[.string ⟨nm.toArray⟩, .int .i64 j] 153)
                      have hld : (dat ++ [Value.slice a2 n c2']).length = j + 1 := by rw [List.length_append, HCJ.out.ld]; rfl
                      refine ⟨j + 1, dat ++ [.slice a2 n c2'], by omega, by go_num, ⟨hld, ?_, ?_, ?_⟩, ?_⟩
                      · rw [List.range_succ, List.map_append, List.map_singleton, bodCells_snoc _ _ _ _ (by rw [HCJ.out.ld]; simp), HBD.out]
                        exact row_grown (HBOD.out.alloc _) hent2 HG4.out (by decide)
                      · intro i hi
                        by_cases hlt2 : i < j
                        · rw [getD_snoc_lt (by rw [HCJ.out.ld]; exact hlt2)]
                          exact row_grown ((HOLD.out i hlt2).alloc _) hent2 HG4.out (by decide)
                        · have e : i = dat.length := by rw [HCJ.out.ld]; omega
                          have e2 : i = j := by omega
                          rw [e, getD_snoc_eq, ← e, e2, HBD.out]
                          show w4.ownsRow _ _ _ _ (List.length ((S.body ib).data.take n)) _
                          rw [HTL.out]
                          exact row_grown (HNEW.out.alloc _) hent2 HG4.out (by decide)
                      · rw [crEnts_succ, HGN.out]
                        have e : entCells (crEnts D j ++ [(nm, j)]) = entCells (crEnts D j) ++ [strV nm, intZ (j : Int)] := by unfold entCells; rw [List.flatMap_append]; rfl
                        rw [e]
                        exact HOWN4.out
                      · exact (HBY.out.alloc (by omega) _).grown HG4.out (by rw [alloc_size]; omega) (fun q hq => (HENT.out.lt q hq).1)
                    case measure => simp [intOf]; omega
        · have hjn : j = nD := by omega
          subst hjn
          have y1q : wr.heap.size = wr.heap.size := rfl
          have hd : MdAt wr p S L := HHQ.out.keep fun q hq => HBJ.out.block q (HHQ.out.lt hq)
          have q1 := hd.head.cell 1
          have q2 := hd.head.cell 2
          have q3 := hd.head.cell 3
          have q4 := hd.head.cell 4
          unfold mhead at q1 q2 q3 q4
          simp at q1 q2 q3 q4
          have qf := hd.head.frozen
          have ql := hd.head.lt
          have HDR := Lib.hid hd
          clear y1q hd
          go_wp2
          go_ret
          have h9 := crash_md (w' := (((wr.setCell ⟨p, 1, none⟩ (.slice ab j cb)).setCell ⟨p, 2, none⟩ (.slice an j cn)).setCell ⟨p, 3, none⟩ (.slice an j cn)).setCell ⟨p, 4, none⟩ (.slice none 0 0)) (dirs := dirs) HI.out HDD.out HMM.out (Nat.le_trans (by omega) hsz) HDR.out HCJ.out HFp.out HWJ.out rfl
          exact ⟨rfl, h9.1, h9.2⟩
end Go.Proofs.YtdmcjomcbhdcbaaGreat

/- A step of the law, in both worlds. (Printed by gen_Sf.py.); Reading and listing, in a world of one drive: what the wound hands out is kept aside.; Steps that read, list, or end a round. (Printed by gen_Sh.py.) -/
import Derived.Test.YtdmcjomcbhdcbaaGreatM35
import Derived.Test.YtdmcjomcbhdcbaaGreatM11
namespace Go.Proofs.YtdmcjomcbhdcbaaGreat
open Go.RowKit Go.Maps

/-- A step; where its slices lie. -/
structure PStp where
  kind : Int
  name : Nm
  data : List UInt8
  act : PAct
structure SLay where
  da : Option Addr
  dc : Nat
  al : ALay
def stepCells (x : PStp) (L : SLay) : Array Value := #[.int .i64 x.kind, .string ⟨x.name.toArray⟩, .slice L.da x.data.length L.dc, .int .i64 x.act.kind, .int .i64 x.act.place, .int .i64 x.act.at_, .int .i64 x.act.n, .slice L.al.da x.act.data.length L.al.dc, .slice L.al.pa x.act.plan.length L.al.pc, .int .i64 x.act.round, .int .i64 x.act.call, .int .i64 x.act.inside, .slice L.al.fa L.al.fn L.al.fc]
/-- What a step tells of its name and its bytes. -/
structure StepIn (w : World) (h : Nat) (Av : Nat → Prop) (x : PStp) (L : SLay) : Prop where
  nm : x.name.length ≤ maxLen
  r : Reads w w.heap.size 1 L.da x.data.length (x.data.map B8)
  a : ∀ ad, L.da = some ad → 0 < x.data.length → ad.block < h ∨ Av ad.block
  al : ∀ ad, L.da = some ad → 0 < x.data.length → ad.block < w.heap.size
  n : x.data.length ≤ 1099511627776
  c : x.data.length ≤ L.dc
/-- What a step leaves. -/
def StepOut (w w' : World) (h dg wg mg q p mq mp : Nat) (Av : Nat → Prop) (k N r : Nat) : Prop :=
  (∃ X S, KeptM X S k N r ∧ World1 w' h Av dg wg mg q p mq mp X S X S) ∧ Touch (fr h Av) w w'

set_option maxRecDepth 100000 in
set_option maxHeartbeats 8000000 in
theorem same_write (w : World) (h dg dc wg wc mg mc q p mq mp : Nat) (Av : Nat → Prop) (X : Wnd) (S : Drv) (hT : World1 w h Av dg wg mg q p mq mp X S X S) (hh : h ≤ w.heap.size) (hcap : Caps dc wc mc) (x : PStp) (L : SLay) (hk : x.kind = 1) (hin : StepIn w h Av x L) {k N r : Nat} (hK : KeptM X S k N r) (hk5 : k + 5 ≤ 1152921504606846976) (hN5 : N + 5 ≤ 1073741824) :
    Calls Tryz.prog 25 #[bothV dg dc wg wc mg mc, .agg (stepCells x L)] w fun e w' => e = .returned (.bool true) ∧ StepOut w w' h dg wg mg q p mq mp Av (k + 5) (N + 5) r := by
  obtain ⟨kind, nm, data, ak, ap, aa, an, adata, aplan, aR, aC, aI⟩ := x
  obtain ⟨da, dcc, ada, adc, apa, apc, afa, afn, afc⟩ := L
  simp only at hk
  subst hk
  unfold bothV stepCells
  obtain ⟨hnm, hrd, hda, hdl, hdb, hdc⟩ := hin
  simp only at hnm hrd hda hdl hdb hdc ⊢
  obtain ⟨hc1, hc2, hc3⟩ := hcap
  have HT := Lib.hid hT
  have hr := hT.rows
  obtain ⟨r1, r2, r3, l1, l2, l3⟩ := hr
  have h01 : (0 : Int) < ((1 : Nat) : Int) := by omega
  obtain ⟨dl, hdle⟩ : ∃ dl, dl = data.length := ⟨_, rfl⟩
  obtain ⟨adl, hadl⟩ : ∃ adl, adl = adata.length := ⟨_, rfl⟩
  obtain ⟨apl, hapl⟩ : ∃ apl, apl = aplan.length := ⟨_, rfl⟩
  rw [← hdle] at hrd hdb hdc hda hdl
  rw [← hdle, ← hadl, ← hapl]
  have HDL := Lib.hid hdle
  have hdl0 := hdl
  have HBW : Hid (∀ o1 o2, Below w.heap.size w ((w.alloc o1).alloc o2)) := Lib.hid fun o1 o2 => ((Below.refl _ w).alloc (Nat.le_refl _) _).alloc (by simp) _
  have HWB : Hid (∀ o1 o2, World1 ((w.alloc o1).alloc o2) h (fun k => Av k ∨ (w.heap.size ≤ k ∧ k < w.heap.size + 2)) dg wg mg q p mq mp X S X S) := Lib.hid fun o1 o2 => by
    have := hT.boxed (w1 := (w.alloc o1).alloc o2) (HBW.out o1 o2)
    rw [show ((w.alloc o1).alloc o2).heap.size = w.heap.size + 2 by simp] at this; exact this
  have hsz : ∀ o1 o2, h ≤ ((w.alloc o1).alloc o2).heap.size := fun o1 o2 => by simp; omega
  have HSZ := Lib.hid hsz
  have HRD : Hid (∀ V, Touch (fr h Av) w V → Reads V V.heap.size 1 da dl (data.map B8)) := Lib.hid fun V hV => (hrd.touch0 hV (Nat.le_refl _) fun ad e h0 => fr_avoid1 (hda ad e h0)).more hV.size
  have HDA : Hid (∀ ad, da = some ad → 0 < dl → ad.block < h ∨ (Av ad.block ∨ (w.heap.size ≤ ad.block ∧ ad.block < w.heap.size + 2))) := Lib.hid fun ad e h0 => by
    rcases hda ad e h0 with h1 | h1
    · exact .inl h1
    · exact .inr (.inl h1)
  have HDLT : Hid (∀ V, Touch (fr h Av) w V → ∀ ad, da = some ad → 0 < dl → ad.block < V.heap.size) := Lib.hid fun V hV ad e h0 => Nat.lt_of_lt_of_le (hdl ad e h0) hV.size
  have HSTP : Hid (∀ o1 Z, Touch (fr h (fun k => Av k ∨ (w.heap.size ≤ k ∧ k < w.heap.size + 2))) ((w.alloc o1).alloc (.cells #[.int .i64 1, .string ⟨nm.toArray⟩, .slice da dl dcc, .int .i64 ak, .int .i64 ap, .int .i64 aa, .int .i64 an, .slice ada adl adc, .slice apa apl apc, .int .i64 aR, .int .i64 aC, .int .i64 aI, .slice afa afn afc] 61)) Z → Z.cell? ⟨w.heap.size + 1, 1, none⟩ = some (.string ⟨nm.toArray⟩) ∧ Z.cell? ⟨w.heap.size + 1, 2, none⟩ = some (.slice da dl dcc) ∧ Touch (fr h Av) w Z) := Lib.hid fun o1 Z hZ => by
    have e : Z.heap[w.heap.size + 1]? = _ := fr_av hZ (k := w.heap.size + 1) (.inr (by omega)) (by simp)
    have hb2 : Blk Z (w.heap.size + 1) 61 _ := e.trans (blk_last _ _ _ _ (by simp))
    exact ⟨hb2.cell 1, hb2.cell 2, (Touch.of_below (HBW.out _ _)).then_ (fr_mono hZ fun k hk => .inl hk)⟩
  obtain ⟨X1, S1, x1, hy⟩ : ∃ X1 S1 x1, turnW X S nm data = (X1, S1, x1) := ⟨_, _, _, rfl⟩
  have hK1 : KeptM X1 S1 (k + 5) (N + 5) r := by have := turnW_keptM hK nm data hN5; rw [hy] at this; exact this
  have HY := Lib.hid hy
  clear hy
  have t1 : (x1 == x1) = true := by simp
  clear hT hrd hda hdl hdl0 hdle hadl hapl hsz
  go_enter Tryz.func25, Tryz.ntmps25
  go_wp2_with (first
    | (go_at_call 18; (refine (lwrite_any _ h dg wg mg q p mq mp _ X X S S (HWB.out _ _) (HSZ.out _ _) k N r hK hk5 hN5 nm hnm da dl dcc data HDL.out hdb (HRD.out _ (Touch.of_below (HBW.out _ _))) HDA.out X1 S1 x1 HY.out).mono ?_); rintro e w2 ⟨rfl, h2, t2⟩; have HT2 := Lib.hid h2; have HTT := Lib.hid t2; obtain ⟨s1, s2, tw⟩ := HSTP.out _ w2 t2; have HTW := Lib.hid tw; clear h2 t2 tw)
    | (go_at_call 69; (have j := mwrite1 HT2.out (Nat.le_trans hh HTW.out.size) hK hk5 hN5 nm hnm da dl dcc data HDL.out hdb hdc (HRD.out _ HTW.out) HDA.out (HDLT.out _ HTW.out); rw [HY.out] at j; refine j.mono ?_); rintro e w3 ⟨rfl, h3, t3⟩; have HT3 := Lib.hid h3; have HTT3 := Lib.hid (HTT.out.then_ t3); clear h3 t3)
    | fail)
  have HE := Lib.hid (World1.end_ HT3.out HTT3.out (HBW.out _ _) (fun k hk => .inl hk) HT.out.avd)
  go_ret
  exact ⟨rfl, ⟨_, _, hK1, HE.out.1⟩, HE.out.2⟩
set_option maxRecDepth 100000 in
set_option maxHeartbeats 8000000 in
theorem same_sweep (w : World) (h dg dc wg wc mg mc q p mq mp : Nat) (Av : Nat → Prop) (X : Wnd) (S : Drv) (hT : World1 w h Av dg wg mg q p mq mp X S X S) (hh : h ≤ w.heap.size) (hcap : Caps dc wc mc) (x : PStp) (L : SLay) (hk : x.kind = 3) (hin : StepIn w h Av x L) {k N r : Nat} (hK : KeptM X S k N r) (hk5 : k + 5 ≤ 1152921504606846976) (hN5 : N + 5 ≤ 1073741824) :
    Calls Tryz.prog 25 #[bothV dg dc wg wc mg mc, .agg (stepCells x L)] w fun e w' => e = .returned (.bool true) ∧ StepOut w w' h dg wg mg q p mq mp Av (k + 5) (N + 5) r := by
  obtain ⟨kind, nm, data, ak, ap, aa, an, adata, aplan, aR, aC, aI⟩ := x
  obtain ⟨da, dcc, ada, adc, apa, apc, afa, afn, afc⟩ := L
  simp only at hk
  subst hk
  unfold bothV stepCells
  obtain ⟨hnm, hrd, hda, hdl, hdb, hdc⟩ := hin
  simp only at hnm hrd hda hdl hdb hdc ⊢
  obtain ⟨hc1, hc2, hc3⟩ := hcap
  have HT := Lib.hid hT
  have hr := hT.rows
  obtain ⟨r1, r2, r3, l1, l2, l3⟩ := hr
  have h01 : (0 : Int) < ((1 : Nat) : Int) := by omega
  obtain ⟨dl, hdle⟩ : ∃ dl, dl = data.length := ⟨_, rfl⟩
  obtain ⟨adl, hadl⟩ : ∃ adl, adl = adata.length := ⟨_, rfl⟩
  obtain ⟨apl, hapl⟩ : ∃ apl, apl = aplan.length := ⟨_, rfl⟩
  rw [← hdle] at hrd hdb hdc hda hdl
  rw [← hdle, ← hadl, ← hapl]
  have HDL := Lib.hid hdle
  have hdl0 := hdl
  have HBW : Hid (∀ o1 o2, Below w.heap.size w ((w.alloc o1).alloc o2)) := Lib.hid fun o1 o2 => ((Below.refl _ w).alloc (Nat.le_refl _) _).alloc (by simp) _
  have HWB : Hid (∀ o1 o2, World1 ((w.alloc o1).alloc o2) h (fun k => Av k ∨ (w.heap.size ≤ k ∧ k < w.heap.size + 2)) dg wg mg q p mq mp X S X S) := Lib.hid fun o1 o2 => by
    have := hT.boxed (w1 := (w.alloc o1).alloc o2) (HBW.out o1 o2)
    rw [show ((w.alloc o1).alloc o2).heap.size = w.heap.size + 2 by simp] at this; exact this
  have hsz : ∀ o1 o2, h ≤ ((w.alloc o1).alloc o2).heap.size := fun o1 o2 => by simp; omega
  have HSZ := Lib.hid hsz
  have HRD : Hid (∀ V, Touch (fr h Av) w V → Reads V V.heap.size 1 da dl (data.map B8)) := Lib.hid fun V hV => (hrd.touch0 hV (Nat.le_refl _) fun ad e h0 => fr_avoid1 (hda ad e h0)).more hV.size
  have HDA : Hid (∀ ad, da = some ad → 0 < dl → ad.block < h ∨ (Av ad.block ∨ (w.heap.size ≤ ad.block ∧ ad.block < w.heap.size + 2))) := Lib.hid fun ad e h0 => by
    rcases hda ad e h0 with h1 | h1
    · exact .inl h1
    · exact .inr (.inl h1)
  have HDLT : Hid (∀ V, Touch (fr h Av) w V → ∀ ad, da = some ad → 0 < dl → ad.block < V.heap.size) := Lib.hid fun V hV ad e h0 => Nat.lt_of_lt_of_le (hdl ad e h0) hV.size
  have HSTP : Hid (∀ o1 Z, Touch (fr h (fun k => Av k ∨ (w.heap.size ≤ k ∧ k < w.heap.size + 2))) ((w.alloc o1).alloc (.cells #[.int .i64 3, .string ⟨nm.toArray⟩, .slice da dl dcc, .int .i64 ak, .int .i64 ap, .int .i64 aa, .int .i64 an, .slice ada adl adc, .slice apa apl apc, .int .i64 aR, .int .i64 aC, .int .i64 aI, .slice afa afn afc] 61)) Z → Z.cell? ⟨w.heap.size + 1, 1, none⟩ = some (.string ⟨nm.toArray⟩) ∧ Z.cell? ⟨w.heap.size + 1, 2, none⟩ = some (.slice da dl dcc) ∧ Touch (fr h Av) w Z) := Lib.hid fun o1 Z hZ => by
    have e : Z.heap[w.heap.size + 1]? = _ := fr_av hZ (k := w.heap.size + 1) (.inr (by omega)) (by simp)
    have hb2 : Blk Z (w.heap.size + 1) 61 _ := e.trans (blk_last _ _ _ _ (by simp))
    exact ⟨hb2.cell 1, hb2.cell 2, (Touch.of_below (HBW.out _ _)).then_ (fr_mono hZ fun k hk => .inl hk)⟩
  obtain ⟨X1, S1, n1, x1, hy⟩ : ∃ X1 S1 n1 x1, asweep X S = (X1, S1, n1, x1) := ⟨_, _, _, _, rfl⟩
  have hK1 : KeptM X1 S1 (k + 5) (N + 5) r := by have := (asweep_keptM hK (by omega)).mono (k' := k + 5) (N' := N + 5) (by omega) (by omega) hN5; rw [hy] at this; exact this
  have HY := Lib.hid hy
  clear hy
  have t1 : (x1 == x1) = true := by simp
  have t2 : (n1 == n1) = true := by simp
  have HSWP : Hid (∀ o1 o2, Calls Tryz.prog 21 #[.iface 40 (.pointer (some ⟨q, 0, none⟩))] ((w.alloc o1).alloc o2) fun e w' => e = .returned (.tuple #[.int .i64 n1, .int .i64 x1]) ∧ World1 w' h (fun k => Av k ∨ (w.heap.size ≤ k ∧ k < w.heap.size + 2)) dg wg mg q p mq mp X1 S1 X S ∧ Touch (fr h (fun k => Av k ∨ (w.heap.size ≤ k ∧ k < w.heap.size + 2))) ((w.alloc o1).alloc o2) w') := Lib.hid fun o1 o2 => by
    have j := sweep1 (HWB.out o1 o2) (HSZ.out o1 o2) hK (by omega) (by omega)
    rw [HY.out] at j
    exact j
  clear hT hrd hda hdl hdl0 hdle hadl hapl hsz
  go_enter Tryz.func25, Tryz.ntmps25
  go_wp2_with (first
    | (go_at_call 21; (refine (HSWP.out _ _).mono ?_); rintro e w2 ⟨rfl, h2, t2⟩; have HT2 := Lib.hid h2; have HTT := Lib.hid t2; obtain ⟨s1, s2, tw⟩ := HSTP.out _ w2 t2; have HTW := Lib.hid tw; clear h2 t2 tw)
    | (go_at_call 71; (have j := msweep1 HT2.out (Nat.le_trans hh HTW.out.size) hK (by omega) (by omega); rw [HY.out] at j; refine j.mono ?_); rintro e w3 ⟨rfl, h3, t3⟩; have HT3 := Lib.hid h3; have HTT3 := Lib.hid (HTT.out.then_ t3); clear h3 t3)
    | fail)
  have HE := Lib.hid (World1.end_ HT3.out HTT3.out (HBW.out _ _) (fun k hk => .inl hk) HT.out.avd)
  go_ret
  exact ⟨rfl, ⟨_, _, hK1, HE.out.1⟩, HE.out.2⟩
set_option maxRecDepth 100000 in
set_option maxHeartbeats 8000000 in
theorem same_remove (w : World) (h dg dc wg wc mg mc q p mq mp : Nat) (Av : Nat → Prop) (X : Wnd) (S : Drv) (hT : World1 w h Av dg wg mg q p mq mp X S X S) (hh : h ≤ w.heap.size) (hcap : Caps dc wc mc) (x : PStp) (L : SLay) (hk : x.kind = 2) (hin : StepIn w h Av x L) {k N r : Nat} (hK : KeptM X S k N r) (hk5 : k + 5 ≤ 1152921504606846976) (hN5 : N + 5 ≤ 1073741824) :
    Calls Tryz.prog 25 #[bothV dg dc wg wc mg mc, .agg (stepCells x L)] w fun e w' => e = .returned (.bool true) ∧ StepOut w w' h dg wg mg q p mq mp Av (k + 5) (N + 5) r := by
  obtain ⟨kind, nm, data, ak, ap, aa, an, adata, aplan, aR, aC, aI⟩ := x
  obtain ⟨da, dcc, ada, adc, apa, apc, afa, afn, afc⟩ := L
  simp only at hk
  subst hk
  unfold bothV stepCells
  obtain ⟨hnm, hrd, hda, hdl, hdb, hdc⟩ := hin
  simp only at hnm hrd hda hdl hdb hdc ⊢
  obtain ⟨hc1, hc2, hc3⟩ := hcap
  have HT := Lib.hid hT
  have hr := hT.rows
  obtain ⟨r1, r2, r3, l1, l2, l3⟩ := hr
  have h01 : (0 : Int) < ((1 : Nat) : Int) := by omega
  obtain ⟨dl, hdle⟩ : ∃ dl, dl = data.length := ⟨_, rfl⟩
  obtain ⟨adl, hadl⟩ : ∃ adl, adl = adata.length := ⟨_, rfl⟩
  obtain ⟨apl, hapl⟩ : ∃ apl, apl = aplan.length := ⟨_, rfl⟩
  rw [← hdle] at hrd hdb hdc hda hdl
  rw [← hdle, ← hadl, ← hapl]
  have HDL := Lib.hid hdle
  have hdl0 := hdl
  have HBW : Hid (∀ o1 o2, Below w.heap.size w ((w.alloc o1).alloc o2)) := Lib.hid fun o1 o2 => ((Below.refl _ w).alloc (Nat.le_refl _) _).alloc (by simp) _
  have HWB : Hid (∀ o1 o2, World1 ((w.alloc o1).alloc o2) h (fun k => Av k ∨ (w.heap.size ≤ k ∧ k < w.heap.size + 2)) dg wg mg q p mq mp X S X S) := Lib.hid fun o1 o2 => by
    have := hT.boxed (w1 := (w.alloc o1).alloc o2) (HBW.out o1 o2)
    rw [show ((w.alloc o1).alloc o2).heap.size = w.heap.size + 2 by simp] at this; exact this
  have hsz : ∀ o1 o2, h ≤ ((w.alloc o1).alloc o2).heap.size := fun o1 o2 => by simp; omega
  have HSZ := Lib.hid hsz
  have HRD : Hid (∀ V, Touch (fr h Av) w V → Reads V V.heap.size 1 da dl (data.map B8)) := Lib.hid fun V hV => (hrd.touch0 hV (Nat.le_refl _) fun ad e h0 => fr_avoid1 (hda ad e h0)).more hV.size
  have HDA : Hid (∀ ad, da = some ad → 0 < dl → ad.block < h ∨ (Av ad.block ∨ (w.heap.size ≤ ad.block ∧ ad.block < w.heap.size + 2))) := Lib.hid fun ad e h0 => by
    rcases hda ad e h0 with h1 | h1
    · exact .inl h1
    · exact .inr (.inl h1)
  have HDLT : Hid (∀ V, Touch (fr h Av) w V → ∀ ad, da = some ad → 0 < dl → ad.block < V.heap.size) := Lib.hid fun V hV ad e h0 => Nat.lt_of_lt_of_le (hdl ad e h0) hV.size
  have HSTP : Hid (∀ o1 Z, Touch (fr h (fun k => Av k ∨ (w.heap.size ≤ k ∧ k < w.heap.size + 2))) ((w.alloc o1).alloc (.cells #[.int .i64 2, .string ⟨nm.toArray⟩, .slice da dl dcc, .int .i64 ak, .int .i64 ap, .int .i64 aa, .int .i64 an, .slice ada adl adc, .slice apa apl apc, .int .i64 aR, .int .i64 aC, .int .i64 aI, .slice afa afn afc] 61)) Z → Z.cell? ⟨w.heap.size + 1, 1, none⟩ = some (.string ⟨nm.toArray⟩) ∧ Z.cell? ⟨w.heap.size + 1, 2, none⟩ = some (.slice da dl dcc) ∧ Touch (fr h Av) w Z) := Lib.hid fun o1 Z hZ => by
    have e : Z.heap[w.heap.size + 1]? = _ := fr_av hZ (k := w.heap.size + 1) (.inr (by omega)) (by simp)
    have hb2 : Blk Z (w.heap.size + 1) 61 _ := e.trans (blk_last _ _ _ _ (by simp))
    exact ⟨hb2.cell 1, hb2.cell 2, (Touch.of_below (HBW.out _ _)).then_ (fr_mono hZ fun k hk => .inl hk)⟩
  obtain ⟨X1, S1, x1, hy⟩ : ∃ X1 S1 x1, removeW X S nm = (X1, S1, x1) := ⟨_, _, _, rfl⟩
  have hK1 : KeptM X1 S1 (k + 5) (N + 5) r := by have := (removeW_keptM hK nm (by omega)).mono (k' := k + 5) (N' := N + 5) (by omega) (by omega) hN5; rw [hy] at this; exact this
  have HY := Lib.hid hy
  clear hy
  have t1 : (x1 == x1) = true := by simp
  clear hT hrd hda hdl hdl0 hdle hadl hapl hsz
  go_enter Tryz.func25, Tryz.ntmps25
  go_wp2
  refine wp_world fun W hW => ?_
  have HRM : Hid (∀ V, Below W.heap.size W V → Calls Tryz.prog 16 #[.iface 40 (.pointer (some ⟨q, 0, none⟩)), .string ⟨nm.toArray⟩] V fun e w' => e = .returned (.int .i64 x1) ∧ World1 w' h (fun k => Av k ∨ (w.heap.size ≤ k ∧ k < w.heap.size + 2)) dg wg mg q p mq mp X1 S1 X S ∧ Touch (fr h (fun k => Av k ∨ (w.heap.size ≤ k ∧ k < w.heap.size + 2))) W w') := Lib.hid fun V hV => by
    have hTW : World1 W h (fun k => Av k ∨ (w.heap.size ≤ k ∧ k < w.heap.size + 2)) dg wg mg q p mq mp X S X S := by rw [hW]; exact HWB.out _ _
    have hsW : h ≤ W.heap.size := by rw [hW]; exact HSZ.out _ _
    have j := remove1 (hTW.below hV) (Nat.le_trans hsW hV.size) hK (by omega) (by omega) nm hnm
    rw [HY.out] at j
    refine j.mono ?_
    rintro e w' ⟨he, h1, h2⟩
    exact ⟨he, h1, (Touch.of_below hV).then_ h2⟩
  have HBWW : Hid (Below w.heap.size w W) := Lib.hid (by rw [hW]; exact HBW.out _ _)
  have HSZW : Hid (h ≤ W.heap.size) := Lib.hid (by rw [hW]; exact HSZ.out _ _)
  have HSW : Hid (∀ Z, Touch (fr h (fun k => Av k ∨ (w.heap.size ≤ k ∧ k < w.heap.size + 2))) W Z → Z.cell? ⟨w.heap.size + 1, 1, none⟩ = some (.string ⟨nm.toArray⟩) ∧ Z.cell? ⟨w.heap.size + 1, 2, none⟩ = some (.slice da dl dcc) ∧ Touch (fr h Av) w Z) := Lib.hid fun Z hZ => by rw [hW] at hZ; exact HSTP.out _ Z hZ
  have s1 := (HSW.out W (Touch.refl _ _)).1
  clear hW
  go_region_held3 (fun V => V.cell? ⟨w.heap.size + 1, 1, none⟩ = some (.string ⟨nm.toArray⟩)) (first | (with_reducible exact HS3.out) | (with_reducible exact HS2.out) | go_keep) ((first
    | (go_at_call 16; (refine (HRM.out _ (by first | exact Below.refl _ _ | exact below_drew1 (Below.refl _ _))).mono ?_); rintro e w2 ⟨rfl, h2, t2⟩; have HT2 := Lib.hid h2; have HTT := Lib.hid t2; have HS2 := Lib.hid (HSW.out w2 t2).1; have HTW := Lib.hid (HSW.out w2 t2).2.2; clear h2 t2)
    | (go_at_call 70; (have j := mremo1 HT2.out (Nat.le_trans hh HTW.out.size) hK (by omega) (by omega) nm hnm; rw [HY.out] at j; refine j.mono ?_); rintro e w3 ⟨rfl, h3, t3⟩; have HT3 := Lib.hid h3; have HTT3 := Lib.hid (HTT.out.then_ t3); have HS3 := Lib.hid (HSW.out w3 HTT3.out).1; clear h3 t3)
    | fail))
  all_goals
    have HE := Lib.hid (World1.end_ HT3.out HTT3.out HBWW.out (fun k hk => .inl hk) HT.out.avd)
    go_wp2
    go_ret
    exact ⟨rfl, ⟨_, _, hK1, HE.out.1⟩, HE.out.2⟩
end Go.Proofs.YtdmcjomcbhdcbaaGreat
namespace Go.Proofs.YtdmcjomcbhdcbaaGreat
open Go.RowKit Go.Maps

section
variable {w : World} {h dg wg mg q p mq mp : Nat} {Av : Nat → Prop} {X X' Y : Wnd} {S S' T : Drv} {k N r : Nat}
theorem World1.wnd_box {f : FuncId} {ar : Array Value} {R : Ending → World → Prop} (hT : World1 w h Av dg wg mg q p mq mp X S Y T)
    (hc : ∀ F, WD w q p X S F → Calls Tryz.prog f ar w fun e w' => R e w' ∧ WD w' q p X' S' F ∧ Touch F w w') :
    Calls Tryz.prog f ar w fun e w' => R e w' ∧ World1 w' h (fun k => Av k ∨ (w.heap.size ≤ k ∧ k < w'.heap.size)) dg wg mg q p mq mp X' S' Y T ∧ Touch (fr h Av) w w' := by
  obtain ⟨F1, F2, a, b, rr, h1, h2, hno, hr, hd, hl⟩ := hT
  refine (hc F1 a).mono ?_
  rintro e w' ⟨he, hw, ht⟩
  have hs := ht.size
  refine ⟨he, ⟨F1, F2, hw, b.keep ht fun k hk hf => hno k hf hk, rr.keep ht fun k hk => (hr k (hd k hk)).1, fun k hk => by have := h1 k hk; omega, fun k hk => by have := h2 k hk; omega, hno, fun k hk => ?_, fun k hk => .inl (hd k hk), fun k hk => ?_⟩, ht.mono fun k _ hk => ⟨(h1 k hk).1, fun ha => (hr k ha).1 hk⟩⟩
  · rcases hk with hk | hk
    · exact hr k hk
    · exact ⟨fun hf => by have := h1 k hf; omega, fun hf => by have := h2 k hf; omega⟩
  · rcases hk with hk | hk
    · have := hl k hk; omega
    · exact hk.2
theorem wread1 (hT : World1 w h Av dg wg mg q p mq mp X S Y T) (hK : KeptM X S k N r) (hk : k ≤ 1152921504606846976) (s : Nm) (hs : s.length ≤ maxLen) :
    Calls Tryz.prog 33 #[.pointer (some ⟨q, 0, none⟩), .string ⟨s.toArray⟩] w fun e w' => (∃ v, e = .returned (.tuple #[v, .int .i64 (wread X (S.read s)).2.2]) ∧ w'.ownsRow w.heap.size 5 1 v (wread X (S.read s)).2.1.length ((wread X (S.read s)).2.1.map B8)) ∧
      World1 w' h (fun k => Av k ∨ (w.heap.size ≤ k ∧ k < w'.heap.size)) dg wg mg q p mq mp (wread X (S.read s)).1 S Y T ∧ Touch (fr h Av) w w' :=
  hT.wnd_box fun F hd => by
    have j := wread_any q p X S F ⟨s.toArray⟩ w (by show s.toArray.size ≤ maxLen; simpa using hs) hd (hK.k.wnd.ok hk) hK.small
    rw [show (⟨s.toArray⟩ : ByteArray).data.toList = s by simp] at j
    refine j.mono ?_
    rintro e w' ⟨v, he, ho, h1, h2⟩
    exact ⟨⟨v, he, ho⟩, h1, h2⟩
theorem wlist1 (hT : World1 w h Av dg wg mg q p mq mp X S Y T) (hK : KeptM X S k N r) (hk : k ≤ 1152921504606846976) :
    Calls Tryz.prog 164 #[.pointer (some ⟨q, 0, none⟩)] w fun e w' => (∃ v, e = .returned (.tuple #[v, .int .i64 (wread X (dnames S.now, (0 : Int))).2.2]) ∧ w'.ownsRow w.heap.size 9 1 v (wread X (dnames S.now, (0 : Int))).2.1.length ((wread X (dnames S.now, (0 : Int))).2.1.map strV)) ∧
      World1 w' h (fun k => Av k ∨ (w.heap.size ≤ k ∧ k < w'.heap.size)) dg wg mg q p mq mp (wread X (dnames S.now, (0 : Int))).1 S Y T ∧ Touch (fr h Av) w w' :=
  hT.wnd_box fun F hd => by
    have j := wlist_any q p X S F w (by have h1 := hK.k.drv.snow; have h2 := hK.k.drv.rooms; omega) hd (hK.k.wnd.ok hk) hK.small
    refine j.mono ?_
    rintro e w' ⟨v, he, ho, h1, h2⟩
    exact ⟨⟨v, he, ho⟩, h1, h2⟩
theorem mread1 (hT : World1 w h Av dg wg mg q p mq mp X S Y T) (hh : h ≤ w.heap.size) (hK : KeptM Y T k N r) (hk : k ≤ 1152921504606846976) (s : Nm) (hs : s.length ≤ maxLen) :
    Calls Tryz.prog 72 #[.pointer (some ⟨mq, 0, none⟩), .string ⟨s.toArray⟩] w fun e w' => (∃ v, e = .returned (.tuple #[v, .int .i64 (wread Y (T.read s)).2.2]) ∧ w'.ownsRow w.heap.size 5 1 v (wread Y (T.read s)).2.1.length ((wread Y (T.read s)).2.1.map B8)) ∧
      World1 w' h Av dg wg mg q p mq mp X S (wread Y (T.read s)).1 T ∧ Touch (fr h Av) w w' :=
  hT.dsk1 hh fun F hd _ _ => by
    refine (dread_any mq mp Y T F s w hs hd (hK.k.wnd.ok hk) hK.mok).mono ?_
    rintro e w' ⟨v, he, ho, h1, h2⟩
    exact ⟨⟨v, he, ho⟩, h1, h2⟩
theorem mlist1 (hT : World1 w h Av dg wg mg q p mq mp X S Y T) (hh : h ≤ w.heap.size) (hK : KeptM Y T k N r) (hk : k ≤ 1152921504606846976) :
    Calls Tryz.prog 73 #[.pointer (some ⟨mq, 0, none⟩)] w fun e w' => (∃ v, e = .returned (.tuple #[v, .int .i64 (wread Y (dnames T.now, (0 : Int))).2.2]) ∧ w'.ownsRow w.heap.size 9 1 v (wread Y (dnames T.now, (0 : Int))).2.1.length ((wread Y (dnames T.now, (0 : Int))).2.1.map strV)) ∧
      World1 w' h Av dg wg mg q p mq mp X S (wread Y (dnames T.now, (0 : Int))).1 T ∧ Touch (fr h Av) w w' :=
  hT.dsk1 hh fun F hd _ _ => by
    refine (dlist_any mq mp Y T F w hd (hK.k.wnd.ok hk) hK.mok).mono ?_
    rintro e w' ⟨v, he, ho, h1, h2⟩
    exact ⟨⟨v, he, ho⟩, h1, h2⟩
end
end Go.Proofs.YtdmcjomcbhdcbaaGreat
namespace Go.Proofs.YtdmcjomcbhdcbaaGreat
open Go.RowKit Go.Maps

set_option maxHeartbeats 1000000 in
theorem sametexts_any (ts : List Nm) (n : Nat) (a b : Option Addr) (ca cb : Nat) (w : World) (hn : n = ts.length) (hnl : n ≤ 1099511627776) (ha : Reads w w.heap.size 1 a n (ts.map strV)) (hb : Reads w w.heap.size 1 b n (ts.map strV)) (hca : n ≤ ca) (hcb : n ≤ cb) :
    Calls Tryz.prog 74 #[.slice a n ca, .slice b n cb] w fun e w' => e = .returned (.bool true) ∧ ∃ m, w' = w.drewN m := by
  have HA := Lib.hid ha
  have HB := Lib.hid hb
  have HN := Lib.hid hn
  have t0 : ((n : Int) != (n : Int)) = false := by simp
  clear ha hb hn
  go_enter Tryz.func74, Tryz.ntmps74
  go_wp2
  go_loopw [5] (fun s wr => ∃ j : Nat, j ≤ n ∧ s = .int .i64 j ∧ ∃ m, wr = w.drewN m) (fun s _ => n - (intOf s).toNat)
  case atStart => exact ⟨0, Nat.zero_le _, rfl, 0, rfl⟩
  case round =>
    obtain ⟨j, hj, rfl, m, hm⟩ := hrel
    have HM := Lib.hid hm
    by_cases hlt : j < n
    · obtain ⟨t, ht⟩ : ∃ t, ts[j]? = some t := ⟨_, List.getElem?_eq_getElem (by rw [← HN.out]; exact hlt)⟩
      obtain ⟨ad, u, rfl, _, hu, hcu⟩ := HA.out.at_ hlt
      obtain ⟨ad2, u2, rfl, _, hu2, hcu2⟩ := HB.out.at_ hlt
      rw [List.getElem?_map, ht] at hu hu2
      injection hu with hu
      injection hu2 with hu2
      subst hu hu2
      have x0 : wr.cell? (ad.add j) = some (.string ⟨t.toArray⟩) := by rw [hm]; exact hcu
      have x1 : wr.cell? (ad2.add j) = some (.string ⟨t.toArray⟩) := by rw [hm]; exact hcu2
      obtain ⟨bb, hbb⟩ : ∃ x : ByteArray, x = ⟨t.toArray⟩ := ⟨_, rfl⟩
      rw [← hbb] at x0 x1
      have i0 : (0 : Int) ≤ (j : Int) := by omega
      have i1 : (j : Int) < (n : Int) := by omega
      have t1 : (bb.toList != bb.toList) = false := by simp
      clear hm ht hcu hcu2 hbb
      go_wp2
      go_quiet (fail)
      go_wp2
      go_roundw
      case rel => exact ⟨j + 1, by omega, by go_num, m + nq, by rw [HM.out, World.drewN_drewN]⟩
      case measure => simp [intOf]; omega
    · have hjn : j = n := by omega
      subst hjn
      clear hm
      go_wp2
      go_ret
      exact ⟨rfl, m, HM.out⟩

set_option maxRecDepth 100000 in
set_option maxHeartbeats 8000000 in
theorem same_read (w : World) (h dg dc wg wc mg mc q p mq mp : Nat) (Av : Nat → Prop) (X : Wnd) (S : Drv) (hT : World1 w h Av dg wg mg q p mq mp X S X S) (hh : h ≤ w.heap.size) (hcap : Caps dc wc mc) (x : PStp) (L : SLay) (hk : x.kind = 4) (hin : StepIn w h Av x L) {k N r : Nat} (hK : KeptM X S k N r) (hk5 : k + 5 ≤ 1152921504606846976) (hN5 : N + 5 ≤ 1073741824) :
    Calls Tryz.prog 25 #[bothV dg dc wg wc mg mc, .agg (stepCells x L)] w fun e w' => e = .returned (.bool true) ∧ StepOut w w' h dg wg mg q p mq mp Av (k + 5) (N + 5) r := by
  obtain ⟨kind, nm, data, ak, ap, aa, an, adata, aplan, aR, aC, aI⟩ := x
  obtain ⟨da, dcc, ada, adc, apa, apc, afa, afn, afc⟩ := L
  simp only at hk
  subst hk
  unfold bothV stepCells
  obtain ⟨hnm, hrd, hda, hdl, hdb, hdc⟩ := hin
  simp only at hnm hrd hda hdl hdb hdc ⊢
  obtain ⟨hc1, hc2, hc3⟩ := hcap
  have HT := Lib.hid hT
  have hr := hT.rows
  obtain ⟨r1, r2, r3, l1, l2, l3⟩ := hr
  have h01 : (0 : Int) < ((1 : Nat) : Int) := by omega
  obtain ⟨dl, hdle⟩ : ∃ dl, dl = data.length := ⟨_, rfl⟩
  obtain ⟨adl, hadl⟩ : ∃ adl, adl = adata.length := ⟨_, rfl⟩
  obtain ⟨apl, hapl⟩ : ∃ apl, apl = aplan.length := ⟨_, rfl⟩
  rw [← hdle] at hrd hdb hdc hda hdl
  rw [← hdle, ← hadl, ← hapl]
  have HDL := Lib.hid hdle
  have hdl0 := hdl
  have HBW : Hid (∀ o1 o2, Below w.heap.size w ((w.alloc o1).alloc o2)) := Lib.hid fun o1 o2 => ((Below.refl _ w).alloc (Nat.le_refl _) _).alloc (by simp) _
  have HWB : Hid (∀ o1 o2, World1 ((w.alloc o1).alloc o2) h (fun k => Av k ∨ (w.heap.size ≤ k ∧ k < w.heap.size + 2)) dg wg mg q p mq mp X S X S) := Lib.hid fun o1 o2 => by
    have := hT.boxed (w1 := (w.alloc o1).alloc o2) (HBW.out o1 o2)
    rw [show ((w.alloc o1).alloc o2).heap.size = w.heap.size + 2 by simp] at this; exact this
  have hsz : ∀ o1 o2, h ≤ ((w.alloc o1).alloc o2).heap.size := fun o1 o2 => by simp; omega
  have HSZ := Lib.hid hsz
  have HRD : Hid (∀ V, Touch (fr h Av) w V → Reads V V.heap.size 1 da dl (data.map B8)) := Lib.hid fun V hV => (hrd.touch0 hV (Nat.le_refl _) fun ad e h0 => fr_avoid1 (hda ad e h0)).more hV.size
  have HDA : Hid (∀ ad, da = some ad → 0 < dl → ad.block < h ∨ (Av ad.block ∨ (w.heap.size ≤ ad.block ∧ ad.block < w.heap.size + 2))) := Lib.hid fun ad e h0 => by
    rcases hda ad e h0 with h1 | h1
    · exact .inl h1
    · exact .inr (.inl h1)
  have HDLT : Hid (∀ V, Touch (fr h Av) w V → ∀ ad, da = some ad → 0 < dl → ad.block < V.heap.size) := Lib.hid fun V hV ad e h0 => Nat.lt_of_lt_of_le (hdl ad e h0) hV.size
  have HSTP : Hid (∀ o1 Z, Touch (fr h (fun k => Av k ∨ (w.heap.size ≤ k ∧ k < w.heap.size + 2))) ((w.alloc o1).alloc (.cells #[.int .i64 4, .string ⟨nm.toArray⟩, .slice da dl dcc, .int .i64 ak, .int .i64 ap, .int .i64 aa, .int .i64 an, .slice ada adl adc, .slice apa apl apc, .int .i64 aR, .int .i64 aC, .int .i64 aI, .slice afa afn afc] 61)) Z → Z.cell? ⟨w.heap.size + 1, 1, none⟩ = some (.string ⟨nm.toArray⟩) ∧ Z.cell? ⟨w.heap.size + 1, 2, none⟩ = some (.slice da dl dcc) ∧ Touch (fr h Av) w Z) := Lib.hid fun o1 Z hZ => by
    have e : Z.heap[w.heap.size + 1]? = _ := fr_av hZ (k := w.heap.size + 1) (.inr (by omega)) (by simp)
    have hb2 : Blk Z (w.heap.size + 1) 61 _ := e.trans (blk_last _ _ _ _ (by simp))
    exact ⟨hb2.cell 1, hb2.cell 2, (Touch.of_below (HBW.out _ _)).then_ (fr_mono hZ fun k hk => .inl hk)⟩
  obtain ⟨X1, l, x1, hy⟩ : ∃ X1 l x1, wread X (S.read nm) = (X1, l, x1) := ⟨_, _, _, rfl⟩
  have hK1 : KeptM X1 S (k + 5) (N + 5) r := by have := (wread_keptM hK (S.read nm) (by omega)).mono (k' := k + 5) (N' := N + 5) (by omega) (by omega) hN5; rw [hy] at this; exact this
  have HY := Lib.hid hy
  clear hy
  have t1 : (x1 == x1) = true := by simp
  obtain ⟨ll, hll⟩ : ∃ ll, ll = l.length := ⟨_, rfl⟩
  have HLL := Lib.hid hll
  obtain ⟨bb, hbb⟩ : ∃ x : ByteArray, x = ⟨l.toArray⟩ := ⟨_, rfl⟩
  have HBB := Lib.hid hbb
  have t2 : (bb.toList == bb.toList) = true := by simp
  have HRA : Hid (∀ o1 o2, Calls Tryz.prog 33 #[.pointer (some ⟨q, 0, none⟩), .string ⟨nm.toArray⟩] ((w.alloc o1).alloc o2) fun e w' => (∃ a c, e = .returned (.tuple #[.slice a ll c, .int .i64 x1]) ∧ w'.ownsRow ((w.alloc o1).alloc o2).heap.size 5 1 (.slice a ll c) ll (l.map B8)) ∧ World1 w' h (fun k => (fun k => Av k ∨ (w.heap.size ≤ k ∧ k < w.heap.size + 2)) k ∨ (((w.alloc o1).alloc o2).heap.size ≤ k ∧ k < w'.heap.size)) dg wg mg q p mq mp X1 S X S ∧ Touch (fr h (fun k => Av k ∨ (w.heap.size ≤ k ∧ k < w.heap.size + 2))) ((w.alloc o1).alloc o2) w') := Lib.hid fun o1 o2 => by
    have j := wread1 (HWB.out o1 o2) hK (by omega) nm hnm
    rw [HY.out] at j
    refine j.mono ?_
    rintro e w' ⟨⟨v, he, ho⟩, h1, h2⟩
    simp only at he ho h1
    rw [← HLL.out] at ho
    obtain ⟨a, c, rfl, _⟩ := own_shape ho
    exact ⟨⟨a, c, he, ho⟩, h1, h2⟩
  have hm0 : ∀ W : World, (method 332 40 (.pointer (some ⟨q, 0, none⟩)) "Read").run Tryz.prog W = .ok (33, .pointer (some ⟨q, 0, none⟩)) W := fun _ => by kernel_rfl
  clear hll hbb
  clear hT hrd hda hdl hdl0 hdle hadl hapl hsz
  go_enter Tryz.func25, Tryz.ntmps25
  go_wp2_with (first
    | (go_at_call 33; (refine (HRA.out _ _).mono ?_); rintro e w2 ⟨⟨a2, c2, rfl, ho2⟩, h2, t2⟩; have HT2 := Lib.hid h2; have HTT := Lib.hid t2; have HO2 := Lib.hid ho2; obtain ⟨s1, s2, tw⟩ := HSTP.out _ w2 t2; have HTW := Lib.hid tw; clear h2 t2 tw ho2)
    | (go_at_call 72; (have j := mread1 HT2.out (Nat.le_trans hh HTW.out.size) hK (by omega) nm hnm; rw [HY.out] at j; refine j.mono ?_); rintro e w3 ⟨⟨v3, rfl, ho3⟩, h3, t3⟩; simp only at ho3 h3; rw [← HLL.out] at ho3; obtain ⟨a3, c3, rfl, _⟩ := own_shape ho3; have HT3 := Lib.hid h3; have HO23 := Lib.hid (ownsRow_keep HO2.out fun k e => t3.block k (HO2.out.lt k e).2 fun hf => hf.2 (.inr (HO2.out.lt k e))); have HTT3 := Lib.hid (HTT.out.then_ (fr_mono t3 fun k hk => .inl hk)); have hva0 : (convert 26 9 (.slice a2 ll c2)).run Tryz.prog w3 = .ok (.string bb) w3 := (by rw [HBB.out, HLL.out]; exact conv_any _ w3.heap.size a2 l c2 (by rw [← HLL.out]; exact Reads.of_own HO23.out)); have hvb0 : (convert 26 9 (.slice a3 ll c3)).run Tryz.prog w3 = .ok (.string bb) w3 := (by rw [HBB.out, HLL.out]; exact conv_any _ w3.heap.size a3 l c3 (by rw [← HLL.out]; exact Reads.of_own ho3)); clear h3 t3 ho3)
    | fail)
  have HE := Lib.hid (World1.end_ (HT3.out.less (fun k hk => .inl hk) (HWB.out (.cells #[] 0) (.cells #[] 0)).avd) HTT3.out (HBW.out _ _) (fun k hk => .inl hk) HT.out.avd)
  go_ret
  exact ⟨rfl, ⟨_, _, hK1, HE.out.1⟩, HE.out.2⟩
set_option maxRecDepth 100000 in
set_option maxHeartbeats 8000000 in
theorem same_list (w : World) (h dg dc wg wc mg mc q p mq mp : Nat) (Av : Nat → Prop) (X : Wnd) (S : Drv) (hT : World1 w h Av dg wg mg q p mq mp X S X S) (hh : h ≤ w.heap.size) (hcap : Caps dc wc mc) (x : PStp) (L : SLay) (hk : x.kind = 5) (hin : StepIn w h Av x L) {k N r : Nat} (hK : KeptM X S k N r) (hk5 : k + 5 ≤ 1152921504606846976) (hN5 : N + 5 ≤ 1073741824) :
    Calls Tryz.prog 25 #[bothV dg dc wg wc mg mc, .agg (stepCells x L)] w fun e w' => e = .returned (.bool true) ∧ StepOut w w' h dg wg mg q p mq mp Av (k + 5) (N + 5) r := by
  obtain ⟨kind, nm, data, ak, ap, aa, an, adata, aplan, aR, aC, aI⟩ := x
  obtain ⟨da, dcc, ada, adc, apa, apc, afa, afn, afc⟩ := L
  simp only at hk
  subst hk
  unfold bothV stepCells
  obtain ⟨hnm, hrd, hda, hdl, hdb, hdc⟩ := hin
  simp only at hnm hrd hda hdl hdb hdc ⊢
  obtain ⟨hc1, hc2, hc3⟩ := hcap
  have HT := Lib.hid hT
  have hr := hT.rows
  obtain ⟨r1, r2, r3, l1, l2, l3⟩ := hr
  have h01 : (0 : Int) < ((1 : Nat) : Int) := by omega
  obtain ⟨dl, hdle⟩ : ∃ dl, dl = data.length := ⟨_, rfl⟩
  obtain ⟨adl, hadl⟩ : ∃ adl, adl = adata.length := ⟨_, rfl⟩
  obtain ⟨apl, hapl⟩ : ∃ apl, apl = aplan.length := ⟨_, rfl⟩
  rw [← hdle] at hrd hdb hdc hda hdl
  rw [← hdle, ← hadl, ← hapl]
  have HDL := Lib.hid hdle
  have hdl0 := hdl
  have HBW : Hid (∀ o1 o2, Below w.heap.size w ((w.alloc o1).alloc o2)) := Lib.hid fun o1 o2 => ((Below.refl _ w).alloc (Nat.le_refl _) _).alloc (by simp) _
  have HWB : Hid (∀ o1 o2, World1 ((w.alloc o1).alloc o2) h (fun k => Av k ∨ (w.heap.size ≤ k ∧ k < w.heap.size + 2)) dg wg mg q p mq mp X S X S) := Lib.hid fun o1 o2 => by
    have := hT.boxed (w1 := (w.alloc o1).alloc o2) (HBW.out o1 o2)
    rw [show ((w.alloc o1).alloc o2).heap.size = w.heap.size + 2 by simp] at this; exact this
  have hsz : ∀ o1 o2, h ≤ ((w.alloc o1).alloc o2).heap.size := fun o1 o2 => by simp; omega
  have HSZ := Lib.hid hsz
  have HRD : Hid (∀ V, Touch (fr h Av) w V → Reads V V.heap.size 1 da dl (data.map B8)) := Lib.hid fun V hV => (hrd.touch0 hV (Nat.le_refl _) fun ad e h0 => fr_avoid1 (hda ad e h0)).more hV.size
  have HDA : Hid (∀ ad, da = some ad → 0 < dl → ad.block < h ∨ (Av ad.block ∨ (w.heap.size ≤ ad.block ∧ ad.block < w.heap.size + 2))) := Lib.hid fun ad e h0 => by
    rcases hda ad e h0 with h1 | h1
    · exact .inl h1
    · exact .inr (.inl h1)
  have HDLT : Hid (∀ V, Touch (fr h Av) w V → ∀ ad, da = some ad → 0 < dl → ad.block < V.heap.size) := Lib.hid fun V hV ad e h0 => Nat.lt_of_lt_of_le (hdl ad e h0) hV.size
  have HSTP : Hid (∀ o1 Z, Touch (fr h (fun k => Av k ∨ (w.heap.size ≤ k ∧ k < w.heap.size + 2))) ((w.alloc o1).alloc (.cells #[.int .i64 5, .string ⟨nm.toArray⟩, .slice da dl dcc, .int .i64 ak, .int .i64 ap, .int .i64 aa, .int .i64 an, .slice ada adl adc, .slice apa apl apc, .int .i64 aR, .int .i64 aC, .int .i64 aI, .slice afa afn afc] 61)) Z → Z.cell? ⟨w.heap.size + 1, 1, none⟩ = some (.string ⟨nm.toArray⟩) ∧ Z.cell? ⟨w.heap.size + 1, 2, none⟩ = some (.slice da dl dcc) ∧ Touch (fr h Av) w Z) := Lib.hid fun o1 Z hZ => by
    have e : Z.heap[w.heap.size + 1]? = _ := fr_av hZ (k := w.heap.size + 1) (.inr (by omega)) (by simp)
    have hb2 : Blk Z (w.heap.size + 1) 61 _ := e.trans (blk_last _ _ _ _ (by simp))
    exact ⟨hb2.cell 1, hb2.cell 2, (Touch.of_below (HBW.out _ _)).then_ (fr_mono hZ fun k hk => .inl hk)⟩
  obtain ⟨X1, l, x1, hy⟩ : ∃ X1 l x1, wread X (dnames S.now, (0 : Int)) = (X1, l, x1) := ⟨_, _, _, rfl⟩
  have hK1 : KeptM X1 S (k + 5) (N + 5) r := by have := (wread_keptM hK (dnames S.now, (0 : Int)) (by omega)).mono (k' := k + 5) (N' := N + 5) (by omega) (by omega) hN5; rw [hy] at this; exact this
  obtain ⟨ll, hll⟩ : ∃ ll, ll = l.length := ⟨_, rfl⟩
  have hllb : ll ≤ 1099511627776 := by
    have h1 : l = dnames S.now ∨ l = [] := by
      unfold wread at hy
      split at hy
      · injection hy with _ h; injection h with h _; exact .inl h.symm
      · injection hy with _ h; injection h with h _; exact .inr h.symm
    rcases h1 with h1 | h1
    · rw [hll, h1, dnames_length]; have h2 := hK.k.drv.snow; have h3 := hK.k.drv.rooms; omega
    · rw [hll, h1]; simp
  have HY := Lib.hid hy
  clear hy
  have t1 : (x1 == x1) = true := by simp
  have HLL := Lib.hid hll
  have HLB := Lib.hid hllb
  have HRA : Hid (∀ o1 o2, Calls Tryz.prog 164 #[.pointer (some ⟨q, 0, none⟩)] ((w.alloc o1).alloc o2) fun e w' => (∃ a c, e = .returned (.tuple #[.slice a ll c, .int .i64 x1]) ∧ w'.ownsRow ((w.alloc o1).alloc o2).heap.size 9 1 (.slice a ll c) ll (l.map strV) ∧ ll ≤ c) ∧ World1 w' h (fun k => (fun k => Av k ∨ (w.heap.size ≤ k ∧ k < w.heap.size + 2)) k ∨ (((w.alloc o1).alloc o2).heap.size ≤ k ∧ k < w'.heap.size)) dg wg mg q p mq mp X1 S X S ∧ Touch (fr h (fun k => Av k ∨ (w.heap.size ≤ k ∧ k < w.heap.size + 2))) ((w.alloc o1).alloc o2) w') := Lib.hid fun o1 o2 => by
    have j := wlist1 (HWB.out o1 o2) hK (by omega)
    rw [HY.out] at j
    refine j.mono ?_
    rintro e w' ⟨⟨v, he, ho⟩, h1, h2⟩
    simp only at he ho h1
    rw [← HLL.out] at ho
    obtain ⟨a, c, rfl, hc⟩ := own_shape ho
    exact ⟨⟨a, c, he, ho, hc⟩, h1, h2⟩
  have hm0 : ∀ W : World, (method 332 40 (.pointer (some ⟨q, 0, none⟩)) "List").run Tryz.prog W = .ok (164, .pointer (some ⟨q, 0, none⟩)) W := fun _ => by kernel_rfl
  clear hll hllb
  clear hT hrd hda hdl hdl0 hdle hadl hapl hsz
  go_enter Tryz.func25, Tryz.ntmps25
  go_wp2_with (first
    | (go_at_call 164; (refine (HRA.out _ _).mono ?_); rintro e w2 ⟨⟨a2, c2, rfl, ho2, hc2⟩, h2, t2⟩; have HT2 := Lib.hid h2; have HTT := Lib.hid t2; have HO2 := Lib.hid ho2; have HC2 := Lib.hid hc2; obtain ⟨s1, s2, tw⟩ := HSTP.out _ w2 t2; have HTW := Lib.hid tw; clear h2 t2 tw ho2 hc2)
    | (go_at_call 73; (have j := mlist1 HT2.out (Nat.le_trans hh HTW.out.size) hK (by omega); rw [HY.out] at j; refine j.mono ?_); rintro e w3 ⟨⟨v3, rfl, ho3⟩, h3, t3⟩; simp only at ho3 h3; rw [← HLL.out] at ho3; obtain ⟨a3, c3, rfl, hc3x⟩ := own_shape ho3; have HT3 := Lib.hid h3; have HO23 := Lib.hid (ownsRow_keep HO2.out fun k e => t3.block k (HO2.out.lt k e).2 fun hf => hf.2 (.inr (HO2.out.lt k e))); have HO3 := Lib.hid ho3; have HC3 := Lib.hid hc3x; have HTT3 := Lib.hid (HTT.out.then_ (fr_mono t3 fun k hk => .inl hk)); clear h3 t3 ho3 hc3x)
    | (go_at_call 74; (refine (sametexts_any l ll a2 a3 c2 c3 w3 HLL.out HLB.out (Reads.of_own HO23.out) (Reads.of_own HO3.out) HC2.out HC3.out).mono ?_); rintro e w4 ⟨rfl, n4, hn4⟩; have HB4 : Hid (Below w3.heap.size w3 w4) := Lib.hid (by rw [hn4]; exact below_drewN (Below.refl _ _) n4); clear hn4)
    | fail)
  have HE := Lib.hid (World1.end_ ((HT3.out.less (fun k hk => .inl hk) (HWB.out (.cells #[] 0) (.cells #[] 0)).avd).below HB4.out) (HTT3.out.then_ (Touch.of_below HB4.out)) (HBW.out _ _) (fun k hk => .inl hk) HT.out.avd)
  go_ret
  exact ⟨rfl, ⟨_, _, hK1, HE.out.1⟩, HE.out.2⟩
set_option maxRecDepth 100000 in
set_option maxHeartbeats 8000000 in
theorem same_rest (w : World) (h dg dc wg wc mg mc q p mq mp : Nat) (Av : Nat → Prop) (X : Wnd) (S : Drv) (hT : World1 w h Av dg wg mg q p mq mp X S X S) (hh : h ≤ w.heap.size) (hcap : Caps dc wc mc) (x : PStp) (L : SLay) (hk : x.kind = 6) (hin : StepIn w h Av x L) {k N r : Nat} (hK : KeptM X S k N r) (hk5 : k + 5 ≤ 1152921504606846976) (hN5 : N + 5 ≤ 1073741824) :
    Calls Tryz.prog 25 #[bothV dg dc wg wc mg mc, .agg (stepCells x L)] w fun e w' => e = .returned (.bool true) ∧ StepOut w w' h dg wg mg q p mq mp Av (k + 5) (N + 5) r := by
  obtain ⟨kind, nm, data, ak, ap, aa, an, adata, aplan, aR, aC, aI⟩ := x
  obtain ⟨da, dcc, ada, adc, apa, apc, afa, afn, afc⟩ := L
  simp only at hk
  subst hk
  unfold bothV stepCells
  obtain ⟨hnm, hrd, hda, hdl, hdb, hdc⟩ := hin
  simp only at hnm hrd hda hdl hdb hdc ⊢
  obtain ⟨hc1, hc2, hc3⟩ := hcap
  have HT := Lib.hid hT
  have hr := hT.rows
  obtain ⟨r1, r2, r3, l1, l2, l3⟩ := hr
  have h01 : (0 : Int) < ((1 : Nat) : Int) := by omega
  obtain ⟨dl, hdle⟩ : ∃ dl, dl = data.length := ⟨_, rfl⟩
  obtain ⟨adl, hadl⟩ : ∃ adl, adl = adata.length := ⟨_, rfl⟩
  obtain ⟨apl, hapl⟩ : ∃ apl, apl = aplan.length := ⟨_, rfl⟩
  rw [← hdle] at hrd hdb hdc hda hdl
  rw [← hdle, ← hadl, ← hapl]
  have HDL := Lib.hid hdle
  have hdl0 := hdl
  have HBW : Hid (∀ o1 o2, Below w.heap.size w ((w.alloc o1).alloc o2)) := Lib.hid fun o1 o2 => ((Below.refl _ w).alloc (Nat.le_refl _) _).alloc (by simp) _
  have HWB : Hid (∀ o1 o2, World1 ((w.alloc o1).alloc o2) h (fun k => Av k ∨ (w.heap.size ≤ k ∧ k < w.heap.size + 2)) dg wg mg q p mq mp X S X S) := Lib.hid fun o1 o2 => by
    have := hT.boxed (w1 := (w.alloc o1).alloc o2) (HBW.out o1 o2)
    rw [show ((w.alloc o1).alloc o2).heap.size = w.heap.size + 2 by simp] at this; exact this
  have hsz : ∀ o1 o2, h ≤ ((w.alloc o1).alloc o2).heap.size := fun o1 o2 => by simp; omega
  have HSZ := Lib.hid hsz
  have HRD : Hid (∀ V, Touch (fr h Av) w V → Reads V V.heap.size 1 da dl (data.map B8)) := Lib.hid fun V hV => (hrd.touch0 hV (Nat.le_refl _) fun ad e h0 => fr_avoid1 (hda ad e h0)).more hV.size
  have HDA : Hid (∀ ad, da = some ad → 0 < dl → ad.block < h ∨ (Av ad.block ∨ (w.heap.size ≤ ad.block ∧ ad.block < w.heap.size + 2))) := Lib.hid fun ad e h0 => by
    rcases hda ad e h0 with h1 | h1
    · exact .inl h1
    · exact .inr (.inl h1)
  have HDLT : Hid (∀ V, Touch (fr h Av) w V → ∀ ad, da = some ad → 0 < dl → ad.block < V.heap.size) := Lib.hid fun V hV ad e h0 => Nat.lt_of_lt_of_le (hdl ad e h0) hV.size
  have HSTP : Hid (∀ o1 Z, Touch (fr h (fun k => Av k ∨ (w.heap.size ≤ k ∧ k < w.heap.size + 2))) ((w.alloc o1).alloc (.cells #[.int .i64 6, .string ⟨nm.toArray⟩, .slice da dl dcc, .int .i64 ak, .int .i64 ap, .int .i64 aa, .int .i64 an, .slice ada adl adc, .slice apa apl apc, .int .i64 aR, .int .i64 aC, .int .i64 aI, .slice afa afn afc] 61)) Z → Z.cell? ⟨w.heap.size + 1, 1, none⟩ = some (.string ⟨nm.toArray⟩) ∧ Z.cell? ⟨w.heap.size + 1, 2, none⟩ = some (.slice da dl dcc) ∧ Touch (fr h Av) w Z) := Lib.hid fun o1 Z hZ => by
    have e : Z.heap[w.heap.size + 1]? = _ := fr_av hZ (k := w.heap.size + 1) (.inr (by omega)) (by simp)
    have hb2 : Blk Z (w.heap.size + 1) 61 _ := e.trans (blk_last _ _ _ _ (by simp))
    exact ⟨hb2.cell 1, hb2.cell 2, (Touch.of_below (HBW.out _ _)).then_ (fr_mono hZ fun k hk => .inl hk)⟩
  have hK1 : KeptM (X.rest X.lit) S (k + 5) (N + 5) r := (hK.wnd (hK.k.wnd.rest X.lit)).mono (by omega) (by omega) hN5
  have HXO := Lib.hid (hK.k.wnd.ok (show k ≤ 1152921504606846976 by omega))
  clear hT hrd hda hdl hdl0 hdle hadl hapl hsz
  go_enter Tryz.func25, Tryz.ntmps25
  go_wp2_with (first
    | (go_at_call 22; (refine (brest_any _ h dg dc wg wc mg mc q p mq mp _ X S (HWB.out _ _) (HSZ.out _ _) HXO.out ⟨hc1, hc2, hc3⟩).mono ?_); rintro e w3 ⟨rfl, h3, t3⟩; have HT3 := Lib.hid h3; have HTT3 := Lib.hid t3; clear h3 t3)
    | fail)
  have HE := Lib.hid (World1.end_ HT3.out HTT3.out (HBW.out _ _) (fun k hk => .inl hk) HT.out.avd)
  go_ret
  exact ⟨rfl, ⟨_, _, hK1, HE.out.1⟩, HE.out.2⟩
end Go.Proofs.YtdmcjomcbhdcbaaGreat

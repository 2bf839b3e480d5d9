/- Any act, in a world of one drive.; A step that is an act; any step. (Printed by gen_Sj.py.); A place's world is a kept one. No program. -/
import Derived.Test.YtdmcjomcbhdcbaaGreatM36
set_option linter.unusedVariables false
namespace Go.Proofs.YtdmcjomcbhdcbaaGreat
open Go.RowKit Go.Maps

/-- What an act names. -/
structure ActIn (w : World) (h : Nat) (Av : Nat → Prop) (x : PAct) (L : ALay) : Prop where
  pr : Reads w w.heap.size 2 L.pa x.plan.length (planCells x.plan)
  pa : ∀ ad, L.pa = some ad → 0 < x.plan.length → ad.block < h ∨ Av ad.block
  pn : x.plan.length ≤ 1099511627776
  dr : Reads w w.heap.size 1 L.da x.data.length (x.data.map B8)
  da : ∀ ad, L.da = some ad → 0 < x.data.length → ad.block < h ∨ Av ad.block
  dn : x.data.length ≤ 1099511627776
  dc : x.data.length ≤ L.dc
  rr : x.round ≤ 9223372036854775807
  ft : ∃ pr nd cr dirs pcu nc cc cuts, FateLow w h Av L.fa L.fn L.fc pr nd cr dirs pcu nc cc cuts ∧ nc ≤ 1099511627776
theorem ActIn.below {w V : World} {h : Nat} {Av : Nat → Prop} {x : PAct} {L : ALay} (hi : ActIn w h Av x L) (hb : Below w.heap.size w V) (G : Nat → Prop) : ActIn V h (fun k => Av k ∨ G k) x L where
  pr := (hi.pr.below hb).more hb.size
  pa := fun ad e h0 => by rcases hi.pa ad e h0 with h | h; exact .inl h; exact .inr (.inl h)
  pn := hi.pn
  dr := (hi.dr.below hb).more hb.size
  da := fun ad e h0 => by rcases hi.da ad e h0 with h | h; exact .inl h; exact .inr (.inl h)
  dn := hi.dn
  dc := hi.dc
  rr := hi.rr
  ft := by
    obtain ⟨pr, nd, cr, dirs, pcu, nc, cc, cuts, h1, h2⟩ := hi.ft
    exact ⟨pr, nd, cr, dirs, pcu, nc, cc, cuts, h1.below hb G, h2⟩
theorem do_any (w : World) (h dg dc wg wc mg mc q p mq mp : Nat) (Av : Nat → Prop) (X : Wnd) (S : Drv) (hT : World1 w h Av dg wg mg q p mq mp X S X S) (hh : h ≤ w.heap.size) (hcap : Caps dc wc mc) (x : PAct) (L : ALay) (hin : ActIn w h Av x L) {k N r : Nat} (hK : KeptM X S k N r) :
    Calls Tryz.prog 23 #[bothV dg dc wg wc mg mc, .agg (actCells x L)] w fun e w' => e = .returned (.tuple #[]) ∧ StepOut w w' h dg wg mg q p mq mp Av k N r := by
  have hok := hK.k.wnd
  by_cases k1 : x.kind = 1
  · refine (do_arm w h dg dc wg wc mg mc q p mq mp Av X X S S hT hh hcap x L k1 hin.pr hin.pa (by have := hin.pn; omega)).mono ?_
    rintro e w' ⟨he, h1, h2⟩
    exact ⟨he, ⟨_, _, hK.wnd (hok.arm x.plan (by have := hin.pn; omega)), h1⟩, h2⟩
  by_cases k2 : x.kind = 2
  · refine (do_offline w h dg dc wg wc mg mc q p mq mp Av X X S S hT hh hcap x L k2).mono ?_
    rintro e w' ⟨he, h1, h2⟩
    exact ⟨he, ⟨_, _, hK.wnd (hok.away true), h1⟩, h2⟩
  by_cases k3 : x.kind = 3
  · refine (do_online w h dg dc wg wc mg mc q p mq mp Av X X S S hT hh hcap x L k3).mono ?_
    rintro e w' ⟨he, h1, h2⟩
    exact ⟨he, ⟨_, _, hK.wnd (hok.away false), h1⟩, h2⟩
  by_cases k4 : x.kind = 4
  · refine (do_fuse w h dg dc wg wc mg mc q p mq mp Av X X S S hT hh hcap x L k4).mono ?_
    rintro e w' ⟨he, h1, h2⟩
    exact ⟨he, ⟨_, _, hK.wnd (hok.fused x.round x.call x.inside hin.rr), h1⟩, h2⟩
  by_cases k5 : x.kind = 5
  · refine (do_off w h dg dc wg wc mg mc q p mq mp Av X S hT hh hcap x L k5).mono ?_
    rintro e w' ⟨he, h1, h2⟩
    exact ⟨he, ⟨_, _, hK.wnd (hok.down true), h1⟩, h2⟩
  by_cases k6 : x.kind = 6
  · obtain ⟨pr, nd, cr, dirs, pcu, nc, cc, cuts, hf, hn⟩ := hin.ft
    refine (do_on w h dg dc wg wc mg mc q p mq mp Av X S hT hh hcap x L k6 hK pr nd cr dirs pcu nc cc cuts hf hn).mono ?_
    rintro e w' ⟨he, h1, h2⟩
    exact ⟨he, ⟨_, _, (hK.crash dirs cuts).wnd (hok.down false), h1⟩, h2⟩
  by_cases k7 : x.kind = 7
  · refine (do_wipe w h dg dc wg wc mg mc q p mq mp Av X S hT hh hcap x L k7 hK).mono ?_
    rintro e w' ⟨he, h1, h2⟩
    exact ⟨he, ⟨_, _, hK.wipe, h1⟩, h2⟩
  by_cases k8 : x.kind = 8
  · refine (do_flip w h dg dc wg wc mg mc q p mq mp Av X S hT hh hcap x L k8 hK hin.dr hin.da hin.dn hin.dc).mono ?_
    rintro e w' ⟨he, ⟨S', h1, h2⟩, h3⟩
    exact ⟨he, ⟨_, _, h1, h2⟩, h3⟩
  by_cases k9 : x.kind = 9
  · refine (do_cut w h dg dc wg wc mg mc q p mq mp Av X S hT hh hcap x L k9 hK).mono ?_
    rintro e w' ⟨he, ⟨S', h1, h2⟩, h3⟩
    exact ⟨he, ⟨_, _, h1, h2⟩, h3⟩
  · refine (do_other w h dg dc wg wc mg mc q p mq mp Av X S hT hcap x L ⟨k1, k2, k3, k4, k5, k6, k7, k8, k9⟩).mono ?_
    rintro e w' ⟨he, h1, h2⟩
    exact ⟨he, ⟨_, _, hK, h1⟩, h2⟩
end Go.Proofs.YtdmcjomcbhdcbaaGreat
namespace Go.Proofs.YtdmcjomcbhdcbaaGreat
open Go.RowKit Go.Maps

set_option maxRecDepth 100000 in
set_option maxHeartbeats 8000000 in
theorem same_act (w : World) (h dg dc wg wc mg mc q p mq mp : Nat) (Av : Nat → Prop) (X : Wnd) (S : Drv) (hT : World1 w h Av dg wg mg q p mq mp X S X S) (hh : h ≤ w.heap.size) (hcap : Caps dc wc mc) (x : PStp) (L : SLay) (hk : x.kind ≠ 1 ∧ x.kind ≠ 2 ∧ x.kind ≠ 3 ∧ x.kind ≠ 4 ∧ x.kind ≠ 5 ∧ x.kind ≠ 6) (hin : StepIn w h Av x L) {k N r : Nat} (hK : KeptM X S k N r) (hk5 : k + 5 ≤ 1152921504606846976) (hN5 : N + 5 ≤ 1073741824) (hac : ActIn w h Av { x.act with place := 0 } L.al) :
    Calls Tryz.prog 25 #[bothV dg dc wg wc mg mc, .agg (stepCells x L)] w fun e w' => e = .returned (.bool true) ∧ StepOut w w' h dg wg mg q p mq mp Av (k + 5) (N + 5) r := by
  obtain ⟨kind, nm, data, ak, ap, aa, an, adata, aplan, aR, aC, aI⟩ := x
  obtain ⟨da, dcc, ada, adc, apa, apc, afa, afn, afc⟩ := L
  simp only at hk hac
  have HAC := Lib.hid hac
  obtain ⟨k1, k2, k3, k4, k5, k6⟩ := hk
  have e1 : (kind == 1) = false := by simpa using k1
  have e2 : (kind == 2) = false := by simpa using k2
  have e3 : (kind == 3) = false := by simpa using k3
  have e4 : (kind == 4) = false := by simpa using k4
  have e5 : (kind == 5) = false := by simpa using k5
  have e6 : (kind == 6) = false := by simpa using k6
  clear k1 k2 k3 k4 k5 k6 hac
  unfold bothV stepCells
  obtain ⟨hnm, hrd, hda, hdl, hdb, hdc⟩ := hin
  simp only at hnm hrd hda hdl hdb hdc ⊢
  obtain ⟨hc1, hc2, hc3⟩ := hcap
  have HT := Lib.hid hT
  have hr := hT.rows
  obtain ⟨r1, r2, r3, l1, l2, l3⟩ := hr
  have h01 : (0 : Int) < ((1 : Nat) : Int) := by omega
  obtain ⟨dl, hdle⟩ : ∃ dl, dl = data.length := ⟨_, rfl⟩
  obtain ⟨adl, hadl⟩ : ∃ adl, adl = adata.length := ⟨_, rfl⟩
  obtain ⟨apl, hapl⟩ : ∃ apl, apl = aplan.length := ⟨_, rfl⟩
  rw [← hdle] at hrd hdb hdc hda hdl
  rw [← hdle, ← hadl, ← hapl]
  have HDL := Lib.hid hdle
  have hdl0 := hdl
  have HBW : Hid (∀ o1 o2, Below w.heap.size w ((w.alloc o1).alloc o2)) := Lib.hid fun o1 o2 => ((Below.refl _ w).alloc (Nat.le_refl _) _).alloc (by simp) _
  have HWB : Hid (∀ o1 o2, World1 ((w.alloc o1).alloc o2) h (fun k => Av k ∨ (w.heap.size ≤ k ∧ k < w.heap.size + 2)) dg wg mg q p mq mp X S X S) := Lib.hid fun o1 o2 => by
    have := hT.boxed (w1 := (w.alloc o1).alloc o2) (HBW.out o1 o2)
    rw [show ((w.alloc o1).alloc o2).heap.size = w.heap.size + 2 by simp] at this; exact this
  have hsz : ∀ o1 o2, h ≤ ((w.alloc o1).alloc o2).heap.size := fun o1 o2 => by simp; omega
  have HSZ := Lib.hid hsz
  have HRD : Hid (∀ V, Touch (fr h Av) w V → Reads V V.heap.size 1 da dl (data.map B8)) := Lib.hid fun V hV => (hrd.touch0 hV (Nat.le_refl _) fun ad e h0 => fr_avoid1 (hda ad e h0)).more hV.size
  have HDA : Hid (∀ ad, da = some ad → 0 < dl → ad.block < h ∨ (Av ad.block ∨ (w.heap.size ≤ ad.block ∧ ad.block < w.heap.size + 2))) := Lib.hid fun ad e h0 => by
    rcases hda ad e h0 with h1 | h1
    · exact .inl h1
    · exact .inr (.inl h1)
  have HDLT : Hid (∀ V, Touch (fr h Av) w V → ∀ ad, da = some ad → 0 < dl → ad.block < V.heap.size) := Lib.hid fun V hV ad e h0 => Nat.lt_of_lt_of_le (hdl ad e h0) hV.size
  have HSTP : Hid (∀ o1 Z, Touch (fr h (fun k => Av k ∨ (w.heap.size ≤ k ∧ k < w.heap.size + 2))) ((w.alloc o1).alloc (.cells #[.int .i64 kind, .string ⟨nm.toArray⟩, .slice da dl dcc, .int .i64 ak, .int .i64 ap, .int .i64 aa, .int .i64 an, .slice ada adl adc, .slice apa apl apc, .int .i64 aR, .int .i64 aC, .int .i64 aI, .slice afa afn afc] 61)) Z → Z.cell? ⟨w.heap.size + 1, 1, none⟩ = some (.string ⟨nm.toArray⟩) ∧ Z.cell? ⟨w.heap.size + 1, 2, none⟩ = some (.slice da dl dcc) ∧ Touch (fr h Av) w Z) := Lib.hid fun o1 Z hZ => by
    have e : Z.heap[w.heap.size + 1]? = _ := fr_av hZ (k := w.heap.size + 1) (.inr (by omega)) (by simp)
    have hb2 : Blk Z (w.heap.size + 1) 61 _ := e.trans (blk_last _ _ _ _ (by simp))
    exact ⟨hb2.cell 1, hb2.cell 2, (Touch.of_below (HBW.out _ _)).then_ (fr_mono hZ fun k hk => .inl hk)⟩
  have HDO : Hid (∀ o1 o2 o3, Calls Tryz.prog 23 #[.agg #[.slice (some ⟨dg, 0, none⟩) 1 dc, .slice (some ⟨wg, 0, none⟩) 1 wc, .slice (some ⟨mg, 0, none⟩) 1 mc], .agg #[.int .i64 ak, .int .i64 0, .int .i64 aa, .int .i64 an, .slice ada adl adc, .slice apa apl apc, .int .i64 aR, .int .i64 aC, .int .i64 aI, .slice afa afn afc]] (((w.alloc o1).alloc o2).alloc o3) fun e w' => e = .returned (.tuple #[]) ∧ StepOut w w' h dg wg mg q p mq mp Av (k + 5) (N + 5) r) := Lib.hid fun o1 o2 o3 => by
    have hb : Below w.heap.size w (((w.alloc o1).alloc o2).alloc o3) := (((Below.refl _ w).alloc (Nat.le_refl _) _).alloc (by simp) _).alloc (by simp; omega) _
    have j := do_any _ h dg dc wg wc mg mc q p mq mp _ X S (hT.boxed hb) (Nat.le_trans hh hb.size) ⟨hc1, hc2, hc3⟩ ⟨ak, 0, aa, an, adata, aplan, aR, aC, aI⟩ ⟨ada, adc, apa, apc, afa, afn, afc⟩ (HAC.out.below hb _) hK
    unfold bothV actCells at j
    simp only at j
    rw [← hadl, ← hapl] at j
    refine j.mono ?_
    rintro e w' ⟨he, ⟨X', S', h1, h2⟩, h3⟩
    have hE := World1.end_ h2 h3 hb (fun k hk => .inl hk) hT.avd
    exact ⟨he, ⟨X', S', h1.mono (by omega) (by omega) hN5, hE.1⟩, hE.2⟩
  clear hT hrd hda hdl hdl0 hdle hadl hapl hsz
  go_enter Tryz.func25, Tryz.ntmps25
  go_wp2_with (first
    | (go_at_call 23; (refine (HDO.out _ _ _).mono ?_); rintro e w3 ⟨rfl, h3⟩; have HT3 := Lib.hid h3; clear h3)
    | fail)
  go_ret
  exact ⟨rfl, HT3.out⟩

/-- Any step. -/
theorem same_any (w : World) (h dg dc wg wc mg mc q p mq mp : Nat) (Av : Nat → Prop) (X : Wnd) (S : Drv) (hT : World1 w h Av dg wg mg q p mq mp X S X S) (hh : h ≤ w.heap.size) (hcap : Caps dc wc mc) (x : PStp) (L : SLay) (hin : StepIn w h Av x L) (hac : ActIn w h Av { x.act with place := 0 } L.al) {k N r : Nat} (hK : KeptM X S k N r) (hk5 : k + 5 ≤ 1152921504606846976) (hN5 : N + 5 ≤ 1073741824) :
    Calls Tryz.prog 25 #[bothV dg dc wg wc mg mc, .agg (stepCells x L)] w fun e w' => e = .returned (.bool true) ∧ StepOut w w' h dg wg mg q p mq mp Av (k + 5) (N + 5) r := by
  by_cases k1 : x.kind = 1
  · exact same_write w h dg dc wg wc mg mc q p mq mp Av X S hT hh hcap x L k1 hin hK hk5 hN5
  by_cases k2 : x.kind = 2
  · exact same_remove w h dg dc wg wc mg mc q p mq mp Av X S hT hh hcap x L k2 hin hK hk5 hN5
  by_cases k3 : x.kind = 3
  · exact same_sweep w h dg dc wg wc mg mc q p mq mp Av X S hT hh hcap x L k3 hin hK hk5 hN5
  by_cases k4 : x.kind = 4
  · exact same_read w h dg dc wg wc mg mc q p mq mp Av X S hT hh hcap x L k4 hin hK hk5 hN5
  by_cases k5 : x.kind = 5
  · exact same_list w h dg dc wg wc mg mc q p mq mp Av X S hT hh hcap x L k5 hin hK hk5 hN5
  by_cases k6 : x.kind = 6
  · exact same_rest w h dg dc wg wc mg mc q p mq mp Av X S hT hh hcap x L k6 hin hK hk5 hN5
  · exact same_act w h dg dc wg wc mg mc q p mq mp Av X S hT hh hcap x L ⟨k1, k2, k3, k4, k5, k6⟩ hin hK hk5 hN5 hac
end Go.Proofs.YtdmcjomcbhdcbaaGreat
namespace Go.Proofs.YtdmcjomcbhdcbaaGreat
open Go.RowKit Go.Maps

theorem loadStep_bodies (S : Drv) (f : File) : (S.loadStep f).bodies.length = S.bodies.length + 1 := by
  unfold Drv.loadStep
  simp
theorem loadK_bodies : ∀ (fs : List File) (S : Drv), (S.loadK fs).bodies.length = S.bodies.length + fs.length
  | [], S => rfl
  | f :: r, S => by
    have h := loadK_bodies r (S.loadStep f)
    rw [loadStep_bodies] at h
    show ((S.loadStep f).loadK r).bodies.length = _
    rw [h, List.length_cons]
    omega
theorem place_keptM (x : PPlace) (hp : x.plan.length ≤ 8796093021952) (hr : x.round ≤ 9223372036854775807) (hok : x.ok = true) (hf : x.files.length + 5 ≤ 1073741824) (hb : ∀ f ∈ x.files, f.2.length ≤ 1073741824) : KeptM x.wnd x.drv 0 x.files.length x.room.toNat := by
  have hlo : loadOk x.room x.files = true := by
    unfold PPlace.ok at hok
    simp only [Bool.and_eq_true] at hok
    exact hok.2
  unfold loadOk at hlo
  simp only [Bool.and_eq_true, decide_eq_true_eq] at hlo
  obtain ⟨⟨h0, h1⟩, hl⟩ := hlo
  have h := loadK_facts x.files (Drv.new x.room.toNat) 0 (Drv.new_inv _ 0 (by omega) (by omega)) rfl rfl (fun i hi => absurd hi (by simp [Drv.new])) hl hb (by omega)
  rw [Nat.zero_add] at h
  have hw : x.wnd.Okn 0 := by
    have h1 := (Wnd.Okn.new.arm x.plan hp).away x.off
    unfold PPlace.wnd
    split
    · exact h1.fused _ _ _ hr
    · exact h1
  have hl : x.drv.bodies.length = x.files.length := by
    show ((Drv.new x.room.toNat).loadK x.files).bodies.length = _
    rw [loadK_bodies]
    simp [Drv.new]
  refine ⟨⟨hw, h.1, h.2.2.2.2⟩, ⟨by rw [hl]; omega, fun s i hs => ?_, fun c hc => ?_⟩⟩
  · have hs' : dget ((Drv.new x.room.toNat).loadK x.files).now s = some i := by rw [← h.2.2.1]; exact hs
    exact h.1.rlt i (refs_mem h.1.tnow hs')
  · have : c ∈ ([] : List (List Stp)) := by rw [← h.2.1]; exact hc
    cases this
end Go.Proofs.YtdmcjomcbhdcbaaGreat

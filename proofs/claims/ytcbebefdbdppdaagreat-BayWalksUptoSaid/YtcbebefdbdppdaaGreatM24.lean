/- A file written whole: layer 13 over a wound, whatever comes of each call.; A wound that refuses nothing: a file is written, told, read, taken away. No program in sight.; bay.Store of a shard that may be, over a wound. -/
import Derived.Test.YtcbebefdbdppdaaGreatM22
import Derived.Test.YtcbebefdbdppdaaGreatM23
import Derived.Test.YtcbebefdbdppdaaGreatM12
import Derived.Test.YtcbebefdbdppdaaGreatM14
namespace Go.Proofs.YtcbebefdbdppdaaGreat
open Go.RowKit Go.Maps
def bT : ByteArray := ⟨#[116]⟩
set_option maxRecDepth 100000 in
set_option maxHeartbeats 2000000 in
theorem aw1_any (b q p : Nat) (X : Wnd) (S : Drv) (F : Nat → Prop) (w : World) (hd : WD w q p X S F) (hX : X.Ok) (hS : S.Small) (hb : w.cell? ⟨b, 0, none⟩ = some (.iface 36 (.pointer (some ⟨q, 0, none⟩)))) (Y : Wnd) (T : Drv) (x : Int) (hy : wcall X S true (S.create bT.data.toList) = (Y, T, x)) :
    Calls Tryz.prog 125 #[.pointer (some ⟨b, 0, none⟩)] w fun e w' => e = .returned (.int .i64 x) ∧ WD w' q p Y T (grow F w w') ∧ Touch F w w' := by
  have hc := wcreate_any q p X S F bT w (by decide) hd hX hS
  have hy' := hy
  rw [show wcall X S true (S.create bT.data.toList) = (Y, T, x) from hy'] at hc
  have HC := Lib.hid hc
  clear hd hX hS hc hy hy'
  have hm : ∀ W : World, (method 437 36 (.pointer (some ⟨q, 0, none⟩)) "Create").run Tryz.prog W = .ok (257, .pointer (some ⟨q, 0, none⟩)) W := fun _ => by kernel_rfl
  go_enter Tryz.func125, Tryz.ntmps125
  go_wp2_with (go_at_call 257; refine HC.out.mono ?_; rintro e w1 ⟨rfl, h1, h2⟩; have H1 := Lib.hid h1; have H2 := Lib.hid h2; clear h1 h2)
  go_ret
  exact ⟨rfl, H1.out, H2.out⟩
set_option maxRecDepth 100000 in
set_option maxHeartbeats 2000000 in
theorem aw2_any (b b2 q p : Nat) (X : Wnd) (S : Drv) (F : Nat → Prop) (w : World) (hd : WD w q p X S F) (hX : X.Ok) (hS : S.Small) (hb : w.cell? ⟨b, 0, none⟩ = some (.iface 36 (.pointer (some ⟨q, 0, none⟩)))) (A : Option Addr) (c : Nat) (bs : List UInt8) (hb2 : w.cell? ⟨b2, 0, none⟩ = some (.slice A bs.length c)) (hr : Reads w w.heap.size 1 A bs.length (bs.map B8)) (hA : ∀ ad, A = some ad → ¬F ad.block) (hcc : bs.length ≤ c) (hbs : bs.length ≤ 140737488351232) (Y : Wnd) (T : Drv) (x : Int) (hy : wappend X S bT.data.toList bs = (Y, T, x)) :
    Calls Tryz.prog 126 #[.pointer (some ⟨b, 0, none⟩), .pointer (some ⟨b2, 0, none⟩)] w fun e w' => e = .returned (.int .i64 x) ∧ WD w' q p Y T (grow F w w') ∧ Touch F w w' := by
  have hc := wappend_any q p X S F bT w (by decide) A c bs hr hA hcc hbs hd hX hS
  have hy' := hy
  rw [show wappend X S bT.data.toList bs = (Y, T, x) from hy'] at hc
  have HC := Lib.hid hc
  clear hd hX hS hc hy hy' hr hA
  have hm : ∀ W : World, (method 437 36 (.pointer (some ⟨q, 0, none⟩)) "Append").run Tryz.prog W = .ok (256, .pointer (some ⟨q, 0, none⟩)) W := fun _ => by kernel_rfl
  go_enter Tryz.func126, Tryz.ntmps126
  go_wp2_with (go_at_call 256; refine HC.out.mono ?_; rintro e w1 ⟨rfl, h1, h2⟩; have H1 := Lib.hid h1; have H2 := Lib.hid h2; clear h1 h2)
  go_ret
  exact ⟨rfl, H1.out, H2.out⟩
set_option maxRecDepth 100000 in
set_option maxHeartbeats 2000000 in
theorem aw3_any (b q p : Nat) (X : Wnd) (S : Drv) (F : Nat → Prop) (w : World) (hd : WD w q p X S F) (hX : X.Ok) (hS : S.Small) (hb : w.cell? ⟨b, 0, none⟩ = some (.iface 36 (.pointer (some ⟨q, 0, none⟩)))) (Y : Wnd) (T : Drv) (x : Int) (hy : wcall X S false (S.sync bT.data.toList) = (Y, T, x)) :
    Calls Tryz.prog 127 #[.pointer (some ⟨b, 0, none⟩)] w fun e w' => e = .returned (.int .i64 x) ∧ WD w' q p Y T (grow F w w') ∧ Touch F w w' := by
  have hc := wsync_any q p X S F bT w (by decide) hd hX hS
  have hy' := hy
  rw [show wcall X S false (S.sync bT.data.toList) = (Y, T, x) from hy'] at hc
  have HC := Lib.hid hc
  clear hd hX hS hc hy hy'
  have hm : ∀ W : World, (method 437 36 (.pointer (some ⟨q, 0, none⟩)) "Sync").run Tryz.prog W = .ok (261, .pointer (some ⟨q, 0, none⟩)) W := fun _ => by kernel_rfl
  go_enter Tryz.func127, Tryz.ntmps127
  go_wp2_with (go_at_call 261; refine HC.out.mono ?_; rintro e w1 ⟨rfl, h1, h2⟩; have H1 := Lib.hid h1; have H2 := Lib.hid h2; clear h1 h2)
  go_ret
  exact ⟨rfl, H1.out, H2.out⟩
set_option maxRecDepth 100000 in
set_option maxHeartbeats 2000000 in
theorem aw4_any (b b2 q p : Nat) (X : Wnd) (S : Drv) (F : Nat → Prop) (w : World) (hd : WD w q p X S F) (hX : X.Ok) (hS : S.Small) (hb : w.cell? ⟨b, 0, none⟩ = some (.iface 36 (.pointer (some ⟨q, 0, none⟩)))) (nm : ByteArray) (hnm : nm.size ≤ maxLen) (hb2 : w.cell? ⟨b2, 0, none⟩ = some (.string nm)) (Y : Wnd) (T : Drv) (x : Int) (hy : wcall X S false (S.rename bT.data.toList nm.data.toList) = (Y, T, x)) :
    Calls Tryz.prog 128 #[.pointer (some ⟨b, 0, none⟩), .pointer (some ⟨b2, 0, none⟩)] w fun e w' => e = .returned (.int .i64 x) ∧ WD w' q p Y T (grow F w w') ∧ Touch F w w' := by
  have hc := wrename_any q p X S F bT nm w (by decide) hnm hd hX hS
  have hy' := hy
  rw [show wcall X S false (S.rename bT.data.toList nm.data.toList) = (Y, T, x) from hy'] at hc
  have HC := Lib.hid hc
  clear hd hX hS hc hy hy'
  have hm : ∀ W : World, (method 437 36 (.pointer (some ⟨q, 0, none⟩)) "Rename").run Tryz.prog W = .ok (260, .pointer (some ⟨q, 0, none⟩)) W := fun _ => by kernel_rfl
  go_enter Tryz.func128, Tryz.ntmps128
  go_wp2_with (go_at_call 260; refine HC.out.mono ?_; rintro e w1 ⟨rfl, h1, h2⟩; have H1 := Lib.hid h1; have H2 := Lib.hid h2; clear h1 h2)
  go_ret
  exact ⟨rfl, H1.out, H2.out⟩
theorem awFrom_go {nm : Nm} {bs : List UInt8} {n k : Nat} {Z : Wnd × Drv} {Y : Wnd} {T : Drv} (h : awStep nm bs Z k = (Y, T, 0)) : awFrom nm bs (n + 1) k Z = awFrom nm bs n (k + 1) (Y, T) := by
  show (if _ then _ else _) = _
  rw [h, if_pos rfl]
theorem awFrom_stop {nm : Nm} {bs : List UInt8} {n k : Nat} {Z : Wnd × Drv} {Y : Wnd} {T : Drv} {x : Int} (h : awStep nm bs Z k = (Y, T, x)) (hx : x ≠ 0) : awFrom nm bs (n + 1) k Z = (Y, T, x) := by
  show (if _ then _ else _) = _
  rw [h, if_neg hx]
structure AwAt (X : World) (q p : Nat) (F : Nat → Prop) (nm : Nm) (bs : List UInt8) (R : Wnd × Drv × Int) (c N r : Nat) (s : Value) (wr : World) : Prop where
  ex : ∃ (k : Nat) (Z : Wnd × Drv), k ≤ 5 ∧ s = .int .i64 k ∧ WD wr q p Z.1 Z.2 (grow F X wr) ∧ Touch F X wr ∧ awFrom nm bs (5 - k) k Z = R ∧ Kept Z.1 Z.2 (c + k) (N + k) r
set_option maxRecDepth 100000 in
set_option maxHeartbeats 20000000 in
theorem awrite_any (q p : Nat) (X : Wnd) (S : Drv) (F : Nat → Prop) (nm : ByteArray) (A : Option Addr) (cap : Nat) (bs : List UInt8) (w : World) (c N r : Nat) (hd : WD w q p X S F) (hF : ∀ k, F k → k < w.heap.size)
    (hlook : ∀ W, Calls Tryz.prog 124 #[.iface 36 (.pointer (some ⟨q, 0, none⟩)), .string nm] W fun e w' => e = .returned (.int .i64 0) ∧ W = w') (hnm : nm.size ≤ maxLen)
    (hr : ∀ W, Touch F w W → Reads W W.heap.size 1 A bs.length (bs.map B8)) (hA : ∀ ad, A = some ad → ad.block < w.heap.size ∧ ¬F ad.block) (hcap : bs.length ≤ cap) (hbs : bs.length ≤ 140737488351232)
    (hk : Kept X S c N r) (hc5 : c + 5 ≤ 1152921504606846976) (hN5 : N + 5 ≤ 2199023254000) (hNr : (N + 5) ≤ 1073741824) (Y : Wnd) (T : Drv) (x : Int) (hy : awrite X S nm.data.toList bs = (Y, T, x)) :
    Calls Tryz.prog 61 #[.iface 36 (.pointer (some ⟨q, 0, none⟩)), .string nm, .slice A bs.length cap] w fun e w' => e = .returned (.int .i64 x) ∧ WD w' q p Y T (grow F w w') ∧ Touch F w w' := by
  have hmf : ∀ (fn : Fn) (first cap : Array Value) (w : World), (Instr.makeFunc fn first cap).run Tryz.prog w = .ok (.func fn first cap) w := fun _ _ _ _ => rfl
  have hm : ∀ W : World, (method 437 36 (.pointer (some ⟨q, 0, none⟩)) "SyncDir").run Tryz.prog W = .ok (262, .pointer (some ⟨q, 0, none⟩)) W := fun _ => by kernel_rfl
  have HD := Lib.hid hd
  have HF := Lib.hid hF
  have HR := Lib.hid hr
  have HA := Lib.hid hA
  have HCAP := Lib.hid hcap
  have HBS := Lib.hid hbs
  have HK := Lib.hid hk
  have HNM := Lib.hid hnm
  have HLO := Lib.hid hlook
  have HC5 := Lib.hid hc5
  have HN5 := Lib.hid hN5
  have HNR := Lib.hid hNr
  have hy' : awFrom nm.data.toList bs 5 0 (X, S) = (Y, T, x) := hy
  have HY := Lib.hid hy'
  clear hd hF hr hA hcap hbs hk hnm hlook hc5 hN5 hNr hy hy'
  go_enter Tryz.func61, Tryz.ntmps61
  go_wp2_with (go_at_call 124; refine (HLO.out _).mono ?_; rintro e w' ⟨rfl, rfl⟩)
  refine wp_world fun W0 hX => ?_
  have HK0 : Hid (Blk W0 w.heap.size 72 #[.iface 36 (.pointer (some ⟨q, 0, none⟩))]) := Lib.hid (by rw [hX]; exact (((Blk.new w _ _).alloc _).alloc _).alloc _)
  have HK1 : Hid (Blk W0 (w.heap.size + 1) 9 #[.string nm]) := Lib.hid (by rw [hX]; exact ((blk_last _ _ _ _ (by simp only [alloc_size])).alloc _).alloc _)
  have HK2 : Hid (Blk W0 (w.heap.size + 1 + 1) 46 #[.slice A bs.length cap]) := Lib.hid (by rw [hX]; exact (blk_last _ _ _ _ (by simp only [alloc_size])).alloc _)
  have HK3 : Hid (Blk W0 (w.heap.size + 1 + 1 + 1) 193 #[.func (.func 125) #[] #[.pointer (some ⟨w.heap.size, 0, none⟩)], .func (.func 126) #[] #[.pointer (some ⟨w.heap.size, 0, none⟩), .pointer (some ⟨w.heap.size + 1 + 1, 0, none⟩)], .func (.func 127) #[] #[.pointer (some ⟨w.heap.size, 0, none⟩)], .func (.func 128) #[] #[.pointer (some ⟨w.heap.size, 0, none⟩), .pointer (some ⟨w.heap.size + 1, 0, none⟩)], .func (.method "SyncDir") #[.iface 36 (.pointer (some ⟨q, 0, none⟩))] #[]]) := Lib.hid (by rw [hX]; exact blk_last _ _ _ _ (by simp only [alloc_size]))
  have HBX : Hid (Below w.heap.size w W0) := Lib.hid (by rw [hX]; exact ((((Below.refl _ w).alloc (Nat.le_refl _) _).alloc (by simp only [alloc_size]; omega) _).alloc (by simp only [alloc_size]; omega) _).alloc (by simp only [alloc_size]; omega) _)
  have HXS : Hid (w.heap.size ≤ W0.heap.size) := Lib.hid HBX.out.size
  clear hX
  have HN : Hid (∀ i, w.heap.size ≤ i → ¬F i) := Lib.hid fun i hi hf => by have := HF.out i hf; omega
  have HWT : Hid (∀ W, Touch F W0 W → Touch F w W) := Lib.hid fun W h => (Touch.of_below HBX.out).trans (h.mono fun i _ hi => .inl hi)
  have HFI : Hid (∀ W, Touch F W0 W → ∀ i, grow F W0 W i → grow F w W i) := Lib.hid fun W ht i hi => by
    rcases hi with hi | ⟨h1, h2⟩
    · exact .inl hi
    · exact .inr ⟨Nat.le_trans HXS.out h1, h2⟩
  go_loopw [9, 10, 26] (fun _ _ s26 wr => AwAt W0 q p F nm.data.toList bs (Y, T, x) c N r s26 wr) (fun _ _ s _ => 5 - (intOf s).toNat)
  case atStart => exact ⟨0, (X, S), Nat.zero_le _, rfl, (WD.below HD.out HBX.out).mono fun i hi => .inl hi, Touch.refl _ _, HY.out, HK.out⟩
  case round =>
    obtain ⟨k, Z, hk, rfl, hd, ht, hz, hkp⟩ := hrel.ex
    clear hrel
    have HD1 := Lib.hid hd
    have HT1 := Lib.hid ht
    have HZ := Lib.hid hz
    have HKP := Lib.hid hkp
    have HOKX : Hid Z.1.Ok := Lib.hid (hkp.wnd.ok (by have := HC5.out; omega))
    have HSM : Hid Z.2.Small := Lib.hid (hkp.drv.small (by have := HN5.out; omega))
    have hsz := ht.size
    have c0 : wr.cell? ⟨w.heap.size, 0, none⟩ = some (.iface 36 (.pointer (some ⟨q, 0, none⟩))) := (HK0.out.touch ht (HN.out _ (by omega))).cell 0
    have c1 : wr.cell? ⟨w.heap.size + 1, 0, none⟩ = some (.string nm) := (HK1.out.touch ht (HN.out _ (by omega))).cell 0
    have c2 : wr.cell? ⟨w.heap.size + 1 + 1, 0, none⟩ = some (.slice A bs.length cap) := (HK2.out.touch ht (HN.out _ (by omega))).cell 0
    have HK3r := Lib.hid (HK3.out.touch ht (HN.out _ (by omega)))
    have HC0 := Lib.hid c0
    have HC1 := Lib.hid c1
    have HC2 := Lib.hid c2
    clear hd ht c0 c1 c2 hz hkp
    by_cases hlt : k < 5
    · obtain rfl | rfl | rfl | rfl | rfl : k = 0 ∨ k = 1 ∨ k = 2 ∨ k = 3 ∨ k = 4 := by omega
      · have y : wr.cell? ⟨w.heap.size + 1 + 1 + 1, 0, none⟩ = some (.func (.func 125) #[] #[.pointer (some ⟨w.heap.size, 0, none⟩)]) := HK3r.out.cell 0
        obtain ⟨Y1, T1, x1, h1⟩ : ∃ Y1 T1 x1, awStep nm.data.toList bs Z 0 = (Y1, T1, x1) := ⟨_, _, _, rfl⟩
        have HST := Lib.hid h1
        have HKN : Hid (Kept Y1 T1 (c + 1) (N + 1) r) := Lib.hid (by
          have := awStep_kept HKP.out nm.data.toList bs 0 ((by have := HNR.out; omega))
          rw [h1] at this
          exact this)
        clear h1
        by_cases hx1 : x1 = 0
        · subst hx1
          have HGO := Lib.hid (awFrom_go (n := 4) HST.out)
          go_wp2_with (go_at_call 125; refine (aw1_any w.heap.size q p Z.1 Z.2 _ wr HD1.out HOKX.out HSM.out HC0.out Y1 T1 0 HST.out).mono ?_; rintro e w1 ⟨rfl, hd1, ht1⟩; have HD2 := Lib.hid hd1; have HT2 := Lib.hid ht1; clear hd1 ht1)
          go_roundw
          case rel => exact ⟨1, (Y1, T1), by omega, by go_num, HD2.out.mono fun i hi => (grow_trans hsz HT2.out.size i).1 hi, HT1.out.trans HT2.out, HGO.out.symm.trans HZ.out, HKN.out⟩
          case measure => first | (simp [intOf]; done) | (simp [intOf]; omega)
        · have HGO := Lib.hid ((awFrom_stop (n := 4) HST.out hx1).symm.trans HZ.out)
          have hx2 : (x1 != 0) = true := by simp [hx1]
          clear hx1
          go_wp2_with (go_at_call 125; refine (aw1_any w.heap.size q p Z.1 Z.2 _ wr HD1.out HOKX.out HSM.out HC0.out Y1 T1 x1 HST.out).mono ?_; rintro e w1 ⟨rfl, hd1, ht1⟩; have HD2 := Lib.hid hd1; have HT2 := Lib.hid ht1; clear hd1 ht1)
          go_ret
          have hT := HT1.out.trans HT2.out
          have e1 := HGO.out
          injection e1 with e1 e2
          injection e2 with e2 e3
          subst e1 e2 e3
          exact ⟨rfl, HD2.out.mono fun i hi => HFI.out _ hT i ((grow_trans hsz HT2.out.size i).1 hi), HWT.out _ hT⟩
      · have y : wr.cell? ⟨w.heap.size + 1 + 1 + 1, 1, none⟩ = some (.func (.func 126) #[] #[.pointer (some ⟨w.heap.size, 0, none⟩), .pointer (some ⟨w.heap.size + 1 + 1, 0, none⟩)]) := HK3r.out.cell 1
        obtain ⟨Y1, T1, x1, h1⟩ : ∃ Y1 T1 x1, awStep nm.data.toList bs Z 1 = (Y1, T1, x1) := ⟨_, _, _, rfl⟩
        have HST := Lib.hid h1
        have HKN : Hid (Kept Y1 T1 (c + 2) (N + 2) r) := Lib.hid (by
          have := awStep_kept HKP.out nm.data.toList bs 1 ((by have := HNR.out; omega))
          rw [h1] at this
          exact this)
        clear h1
        by_cases hx1 : x1 = 0
        · subst hx1
          have HGO := Lib.hid (awFrom_go (n := 3) HST.out)
          go_wp2_with (go_at_call 126; refine (aw2_any w.heap.size (w.heap.size + 1 + 1) q p Z.1 Z.2 _ wr HD1.out HOKX.out HSM.out HC0.out A cap bs HC2.out (HR.out wr (HWT.out wr HT1.out)) (fun ad e hf => by have h1 := HA.out ad e; rcases hf with hf | ⟨h2, _⟩; exact h1.2 hf; have h3 := HXS.out; omega) HCAP.out HBS.out Y1 T1 0 HST.out).mono ?_; rintro e w1 ⟨rfl, hd1, ht1⟩; have HD2 := Lib.hid hd1; have HT2 := Lib.hid ht1; clear hd1 ht1)
          go_roundw
          case rel => exact ⟨2, (Y1, T1), by omega, by go_num, HD2.out.mono fun i hi => (grow_trans hsz HT2.out.size i).1 hi, HT1.out.trans HT2.out, HGO.out.symm.trans HZ.out, HKN.out⟩
          case measure => first | (simp [intOf]; done) | (simp [intOf]; omega)
        · have HGO := Lib.hid ((awFrom_stop (n := 3) HST.out hx1).symm.trans HZ.out)
          have hx2 : (x1 != 0) = true := by simp [hx1]
          clear hx1
          go_wp2_with (go_at_call 126; refine (aw2_any w.heap.size (w.heap.size + 1 + 1) q p Z.1 Z.2 _ wr HD1.out HOKX.out HSM.out HC0.out A cap bs HC2.out (HR.out wr (HWT.out wr HT1.out)) (fun ad e hf => by have h1 := HA.out ad e; rcases hf with hf | ⟨h2, _⟩; exact h1.2 hf; have h3 := HXS.out; omega) HCAP.out HBS.out Y1 T1 x1 HST.out).mono ?_; rintro e w1 ⟨rfl, hd1, ht1⟩; have HD2 := Lib.hid hd1; have HT2 := Lib.hid ht1; clear hd1 ht1)
          go_ret
          have hT := HT1.out.trans HT2.out
          have e1 := HGO.out
          injection e1 with e1 e2
          injection e2 with e2 e3
          subst e1 e2 e3
          exact ⟨rfl, HD2.out.mono fun i hi => HFI.out _ hT i ((grow_trans hsz HT2.out.size i).1 hi), HWT.out _ hT⟩
      · have y : wr.cell? ⟨w.heap.size + 1 + 1 + 1, 2, none⟩ = some (.func (.func 127) #[] #[.pointer (some ⟨w.heap.size, 0, none⟩)]) := HK3r.out.cell 2
        obtain ⟨Y1, T1, x1, h1⟩ : ∃ Y1 T1 x1, awStep nm.data.toList bs Z 2 = (Y1, T1, x1) := ⟨_, _, _, rfl⟩
        have HST := Lib.hid h1
        have HKN : Hid (Kept Y1 T1 (c + 3) (N + 3) r) := Lib.hid (by
          have := awStep_kept HKP.out nm.data.toList bs 2 ((by have := HNR.out; omega))
          rw [h1] at this
          exact this)
        clear h1
        by_cases hx1 : x1 = 0
        · subst hx1
          have HGO := Lib.hid (awFrom_go (n := 2) HST.out)
          go_wp2_with (go_at_call 127; refine (aw3_any w.heap.size q p Z.1 Z.2 _ wr HD1.out HOKX.out HSM.out HC0.out Y1 T1 0 HST.out).mono ?_; rintro e w1 ⟨rfl, hd1, ht1⟩; have HD2 := Lib.hid hd1; have HT2 := Lib.hid ht1; clear hd1 ht1)
          go_roundw
          case rel => exact ⟨3, (Y1, T1), by omega, by go_num, HD2.out.mono fun i hi => (grow_trans hsz HT2.out.size i).1 hi, HT1.out.trans HT2.out, HGO.out.symm.trans HZ.out, HKN.out⟩
          case measure => first | (simp [intOf]; done) | (simp [intOf]; omega)
        · have HGO := Lib.hid ((awFrom_stop (n := 2) HST.out hx1).symm.trans HZ.out)
          have hx2 : (x1 != 0) = true := by simp [hx1]
          clear hx1
          go_wp2_with (go_at_call 127; refine (aw3_any w.heap.size q p Z.1 Z.2 _ wr HD1.out HOKX.out HSM.out HC0.out Y1 T1 x1 HST.out).mono ?_; rintro e w1 ⟨rfl, hd1, ht1⟩; have HD2 := Lib.hid hd1; have HT2 := Lib.hid ht1; clear hd1 ht1)
          go_ret
          have hT := HT1.out.trans HT2.out
          have e1 := HGO.out
          injection e1 with e1 e2
          injection e2 with e2 e3
          subst e1 e2 e3
          exact ⟨rfl, HD2.out.mono fun i hi => HFI.out _ hT i ((grow_trans hsz HT2.out.size i).1 hi), HWT.out _ hT⟩
      · have y : wr.cell? ⟨w.heap.size + 1 + 1 + 1, 3, none⟩ = some (.func (.func 128) #[] #[.pointer (some ⟨w.heap.size, 0, none⟩), .pointer (some ⟨w.heap.size + 1, 0, none⟩)]) := HK3r.out.cell 3
        obtain ⟨Y1, T1, x1, h1⟩ : ∃ Y1 T1 x1, awStep nm.data.toList bs Z 3 = (Y1, T1, x1) := ⟨_, _, _, rfl⟩
        have HST := Lib.hid h1
        have HKN : Hid (Kept Y1 T1 (c + 4) (N + 4) r) := Lib.hid (by
          have := awStep_kept HKP.out nm.data.toList bs 3 ((by have := HNR.out; omega))
          rw [h1] at this
          exact this)
        clear h1
        by_cases hx1 : x1 = 0
        · subst hx1
          have HGO := Lib.hid (awFrom_go (n := 1) HST.out)
          go_wp2_with (go_at_call 128; refine (aw4_any w.heap.size (w.heap.size + 1) q p Z.1 Z.2 _ wr HD1.out HOKX.out HSM.out HC0.out nm HNM.out HC1.out Y1 T1 0 HST.out).mono ?_; rintro e w1 ⟨rfl, hd1, ht1⟩; have HD2 := Lib.hid hd1; have HT2 := Lib.hid ht1; clear hd1 ht1)
          go_roundw
          case rel => exact ⟨4, (Y1, T1), by omega, by go_num, HD2.out.mono fun i hi => (grow_trans hsz HT2.out.size i).1 hi, HT1.out.trans HT2.out, HGO.out.symm.trans HZ.out, HKN.out⟩
          case measure => first | (simp [intOf]; done) | (simp [intOf]; omega)
        · have HGO := Lib.hid ((awFrom_stop (n := 1) HST.out hx1).symm.trans HZ.out)
          have hx2 : (x1 != 0) = true := by simp [hx1]
          clear hx1
          go_wp2_with (go_at_call 128; refine (aw4_any w.heap.size (w.heap.size + 1) q p Z.1 Z.2 _ wr HD1.out HOKX.out HSM.out HC0.out nm HNM.out HC1.out Y1 T1 x1 HST.out).mono ?_; rintro e w1 ⟨rfl, hd1, ht1⟩; have HD2 := Lib.hid hd1; have HT2 := Lib.hid ht1; clear hd1 ht1)
          go_ret
          have hT := HT1.out.trans HT2.out
          have e1 := HGO.out
          injection e1 with e1 e2
          injection e2 with e2 e3
          subst e1 e2 e3
          exact ⟨rfl, HD2.out.mono fun i hi => HFI.out _ hT i ((grow_trans hsz HT2.out.size i).1 hi), HWT.out _ hT⟩
      · have y : wr.cell? ⟨w.heap.size + 1 + 1 + 1, 4, none⟩ = some (.func (.method "SyncDir") #[.iface 36 (.pointer (some ⟨q, 0, none⟩))] #[]) := HK3r.out.cell 4
        obtain ⟨Y1, T1, x1, h1⟩ : ∃ Y1 T1 x1, awStep nm.data.toList bs Z 4 = (Y1, T1, x1) := ⟨_, _, _, rfl⟩
        have HST := Lib.hid h1
        have HKN : Hid (Kept Y1 T1 (c + 5) (N + 5) r) := Lib.hid (by
          have := awStep_kept HKP.out nm.data.toList bs 4 ((by have := HNR.out; omega))
          rw [h1] at this
          exact this)
        clear h1
        have HSD : Hid (Calls Tryz.prog 262 #[.pointer (some ⟨q, 0, none⟩)] wr fun e w' => e = .returned (.int .i64 x1) ∧ WD w' q p Y1 T1 (grow (grow F W0 wr) wr w') ∧ Touch (grow F W0 wr) wr w') := Lib.hid (by
          have := wsyncDir_any q p Z.1 Z.2 _ wr HD1.out HOKX.out HSM.out
          rw [show wcall Z.1 Z.2 false (Z.2.syncDir, 0) = (Y1, T1, x1) from HST.out] at this
          exact this)
        by_cases hx1 : x1 = 0
        · subst hx1
          have HGO := Lib.hid (awFrom_go (n := 0) HST.out)
          go_wp2_with (go_at_call 262; refine HSD.out.mono ?_; rintro e w1 ⟨rfl, hd1, ht1⟩; have HD2 := Lib.hid hd1; have HT2 := Lib.hid ht1; clear hd1 ht1)
          go_roundw
          case rel => exact ⟨5, (Y1, T1), by omega, by go_num, HD2.out.mono fun i hi => (grow_trans hsz HT2.out.size i).1 hi, HT1.out.trans HT2.out, HGO.out.symm.trans HZ.out, HKN.out⟩
          case measure => first | (simp [intOf]; done) | (simp [intOf]; omega)
        · have HGO := Lib.hid ((awFrom_stop (n := 0) HST.out hx1).symm.trans HZ.out)
          have hx2 : (x1 != 0) = true := by simp [hx1]
          clear hx1
          go_wp2_with (go_at_call 262; refine HSD.out.mono ?_; rintro e w1 ⟨rfl, hd1, ht1⟩; have HD2 := Lib.hid hd1; have HT2 := Lib.hid ht1; clear hd1 ht1)
          go_ret
          have hT := HT1.out.trans HT2.out
          have e1 := HGO.out
          injection e1 with e1 e2
          injection e2 with e2 e3
          subst e1 e2 e3
          exact ⟨rfl, HD2.out.mono fun i hi => HFI.out _ hT i ((grow_trans hsz HT2.out.size i).1 hi), HWT.out _ hT⟩
    · obtain rfl : k = 5 := by omega
      have e1 : (Z.1, Z.2, (0 : Int)) = (Y, T, x) := HZ.out
      injection e1 with e1 e2
      injection e2 with e2 e3
      subst e1 e2 e3
      go_wp2
      go_ret
      exact ⟨rfl, HD1.out.mono fun i hi => HFI.out _ HT1.out i hi, HWT.out wr HT1.out⟩
end Go.Proofs.YtcbebefdbdppdaaGreat
namespace Go.Proofs.YtcbebefdbdppdaaGreat
open Go.RowKit Go.Maps
structure Calm (X : Wnd) : Prop where
  down : X.down = false
  away : X.away = false
  plan : X.plan = []
  fuse : X.fuse = none
theorem Calm.new : Calm Wnd.new := ⟨rfl, rfl, rfl, rfl⟩
theorem Calm.struck {X : Wnd} (h : Calm X) (may : Bool) : X.struck may = (X.count, 0, -1) := by
  unfold Wnd.struck
  rw [if_neg (by rw [h.down]; decide), if_neg (by rw [h.away]; decide), if_neg (by unfold Wnd.hits; rw [h.fuse]; exact Bool.false_ne_true), h.plan]
  rfl
theorem Calm.count {X : Wnd} (h : Calm X) : Calm X.count := ⟨h.down, h.away, h.plan, h.fuse⟩
theorem Calm.call {X : Wnd} (h : Calm X) (S : Drv) (may : Bool) (f : Drv × Int) : wcall X S may f = (X.count, f.1, f.2) := by
  unfold wcall; rw [h.struck]; rfl
theorem Calm.append {X : Wnd} (h : Calm X) (S : Drv) (s : Nm) (bs : List UInt8) : wappend X S s bs = (X.count, (S.append s bs).1, (S.append s bs).2) := by
  unfold wappend; rw [h.struck]; rfl
theorem Calm.read {X : Wnd} (h : Calm X) {α : Type} (r : List α × Int) : wread X r = (X.count, r.1, r.2) := by
  unfold wread; rw [h.struck]; rfl
theorem create_used {S : Drv} (h : dget S.now tmpN = none) : (({ S with bodies := S.bodies ++ [⟨[], 0⟩] } : Drv).change [(tmpN, some S.bodies.length)]).used = S.used := by
  show S.used - ({ S with bodies := S.bodies ++ [⟨[], 0⟩] } : Drv).lenO (dget S.now tmpN) + ({ S with bodies := S.bodies ++ [⟨[], 0⟩] } : Drv).lenO (some S.bodies.length) = S.used
  rw [h]
  have e : ({ S with bodies := S.bodies ++ [⟨[], 0⟩] } : Drv).lenO (some S.bodies.length) = 0 := by
    show ((((S.bodies ++ [(⟨[], 0⟩ : Body)]).getD S.bodies.length ⟨[], 0⟩).data.length : Nat) : Int) = 0
    rw [List.getD_eq_getElem?_getD, List.getElem?_append_right (Nat.le_refl _), Nat.sub_self]
    rfl
  rw [e]
  show S.used - 0 + 0 = S.used
  omega
theorem calm_awrite {X : Wnd} {S : Drv} {c N r : Nat} {P : Nm → Option (List UInt8) → Prop} (hK : Kept X S c N r) (hC : Calm X) (hN : N + 5 ≤ 1073741824) (hH : Holds S P) (nm : Nm) (bs : List UInt8) (hn : named nm = true) (hnt : nm ≠ tmpN)
    (ht : dget S.now tmpN = none) (hs : size S.now < 65536) (hb : bs ≠ []) (hroom : S.used + bs.length ≤ r) : (awrite X S nm bs).2.2 = 0 ∧ Calm (awrite X S nm bs).1 := by
  have hI := hK.drv
  obtain ⟨S1, h1⟩ : ∃ S1, S.create tmpN = (S1, 0) := by
    unfold Drv.create
    rw [if_neg (by decide), if_neg (by rintro ⟨_, h⟩; omega)]
    exact ⟨_, rfl⟩
  have u1 : S1.used = S.used := by rw [create_ok h1]; exact create_used ht
  obtain ⟨H1, F1, d1, sh1⟩ := hH.create hI.tnow h1
  have I1 : S1.Inv (N + 1) := by have := Drv.create_inv hI tmpN (by omega); rw [h1] at this; exact this
  have R1 : S1.room = r := by have := Drv.create_keepsRoom S tmpN; rw [h1] at this; exact this.trans hK.room
  obtain ⟨S2, h2⟩ : ∃ S2, S1.append tmpN bs = (S2, 0) := by
    unfold Drv.append
    rw [find_fresh F1]
    simp only
    rw [if_neg hb, if_neg (by rw [R1, u1]; omega)]
    exact ⟨_, rfl⟩
  obtain ⟨H2, F2, d2, _⟩ := H1.append F1 bs h2
  have I2 : S2.Inv (N + 1 + 1) := by have := Drv.append_inv I1 tmpN bs (by omega); rw [h2] at this; exact this
  obtain ⟨S3, x3, h3⟩ : ∃ S3 x3, S2.sync tmpN = (S3, x3) := ⟨_, _, rfl⟩
  obtain ⟨H3, F3, x30, d3, w3, _⟩ := H2.sync F2 h3
  subst x30
  have I3 : S3.Inv (N + 1 + 1 + 1) := by have := Drv.sync_inv I2 tmpN (by omega); rw [h3] at this; exact this
  obtain ⟨S4, x4, h4⟩ : ∃ S4 x4, S3.rename tmpN nm = (S4, x4) := ⟨_, _, rfl⟩
  obtain ⟨x40, _⟩ := H3.rename I3.tnow F3 nm hn hnt w3 h4
  subst x40
  have C1 := hC.count
  have C2 := C1.count
  have C3 := C2.count
  have C4 := C3.count
  have e0 : awStep nm bs (X, S) 0 = (X.count, S1, 0) := by
    show wcall X S true (S.create tmpN) = _
    rw [hC.call, h1]
  have e1 : awStep nm bs (X.count, S1) 1 = (X.count.count, S2, 0) := by
    show wappend X.count S1 tmpN bs = _
    rw [C1.append, h2]
  have e2 : awStep nm bs (X.count.count, S2) 2 = (X.count.count.count, S3, 0) := by
    show wcall X.count.count S2 false (S2.sync tmpN) = _
    rw [C2.call, h3]
  have e3 : awStep nm bs (X.count.count.count, S3) 3 = (X.count.count.count.count, S4, 0) := by
    show wcall X.count.count.count S3 false (S3.rename tmpN nm) = _
    rw [C3.call, h4]
  have e4 : awStep nm bs (X.count.count.count.count, S4) 4 = (X.count.count.count.count.count, S4.syncDir, 0) := by
    show wcall X.count.count.count.count S4 false (S4.syncDir, 0) = _
    rw [C4.call]
  have e : awrite X S nm bs = (X.count.count.count.count.count, S4.syncDir, 0) := by
    show awFrom nm bs 5 0 (X, S) = _
    rw [awFrom_go e0, awFrom_go e1, awFrom_go e2, awFrom_go e3, awFrom_go e4]
    rfl
  rw [e]
  exact ⟨rfl, C4.count⟩
theorem holds_new (r : Nat) : Holds (Drv.new r) (fun _ y => y = none) :=
  ⟨fun _ _ => rfl, fun _ _ => rfl, fun c hc => (by cases hc), fun s i hs h => (by rcases h with h | h | ⟨c, hc, _⟩ <;> first | cases h | cases hc)⟩
theorem kept_new (r : Nat) (hr : r ≤ 1073741824) : Kept Wnd.new (Drv.new r) 0 0 r := ⟨Wnd.Okn.new, Drv.new_inv r 0 hr (by omega), rfl⟩
theorem read_shows {S : Drv} {s : Nm} (hn : named s = true) : S.read s = (match S.shows s with | some d => (d, 0) | none => ([], 110)) := by
  unfold Drv.read Drv.find Drv.shows
  rw [if_neg (by rw [hn]; decide)]
  cases dget S.now s <;> rfl
end Go.Proofs.YtcbebefdbdppdaaGreat
namespace Go.Proofs.YtcbebefdbdppdaaGreat
open Go.RowKit Go.Maps
theorem look_obj (q : Nat) (s : List UInt8) (h1 : 1 ≤ s.length) (h2 : s.length ≤ 1024) (ht : s ≠ [116]) (w : World) : Calls Tryz.prog 124 #[.iface 36 (.pointer (some ⟨q, 0, none⟩)), .string ⟨s.toArray⟩] w fun e w' => e = .returned (.int .i64 0) ∧ w = w' := by
  have hz : s.isEmpty = false := by cases s with
    | nil => exact absurd h1 (by simp)
    | cons a l => rfl
  have ht' : (s == [116]) = false := by rw [beq_eq_false_iff_ne]; exact ht
  have hl : decide ((1024 : Int) < (s.length : Int)) = false := by rw [decide_eq_false_iff_not]; omega
  clear ht h1 h2
  go_enter Tryz.func124, Tryz.ntmps124
  go_wp2
  go_ret
  exact ⟨rfl, rfl⟩
theorem own_place {w : World} {b n c : Nat} {A : Option Addr} {e : TypeId} {xs : List Value} (h : w.ownsRow b e 1 (.slice A n c) n xs) : ∀ ad, A = some ad → b ≤ ad.block ∧ ad.block < w.heap.size := by
  intro ad hA
  subst hA
  have := h.lt ad.block (by
    rcases h.2 with ⟨hv, _⟩ | ⟨g, cap, cur, hv, _⟩
    · cases hv
    · injection hv with h1 h2 h3
      injection h1 with h1
      subst h1
      rfl)
  exact this
theorem hd_key {h : Hd} (hs : h.st.length = 8) (u : Value) : ((hdCells h).push u)[11]? = some (strV h.key) := by
  obtain ⟨a0, a1, a2, a3, a4, a5, a6, a7, hst⟩ := lab_eight hs
  unfold hdCells
  rw [hst]
  rfl
set_option maxRecDepth 100000 in
set_option maxHeartbeats 4000000 in
theorem bstore_ok (q p : Nat) (X : Wnd) (S : Drv) (F : Nat → Prop) (h : Hd) (hw : h.Wf) (f : h.Fit) (l : List (List UInt8)) (hl : l.map List.length = h.lens) (A : Option Addr) (n c : Nat) (w : World) (hb : BlksAt w w.heap.size A n l) (hd : WD w q p X S F) (hF : ∀ k, F k → k < w.heap.size)
    (ct N r : Nat) (hk : Kept X S ct N r) (hc5 : ct + 5 ≤ 1152921504606846976) (hNr : N + 5 ≤ 1073741824) (Y : Wnd) (T : Drv) (x : Int) (hy : awrite X S (objN h.key) (shardBytes h l) = (Y, T, x)) :
    Calls Tryz.prog 14 #[.iface 36 (.pointer (some ⟨q, 0, none⟩)), shV h (.slice A n c)] w fun e w' => e = .returned (.int .i64 x) ∧ WD w' q p Y T (grow F w w') ∧ Touch F w w' := by
  have hkey := f.key
  have hlen := shard_length h hw.st l hl
  have hle := hd_len_le f
  obtain ⟨W0, hW0⟩ : ∃ W0, W0 = w.alloc (.cells ((hdCells h).push (.slice A n c)) 31) := ⟨_, rfl⟩
  have HK0 : Hid (Blk W0 w.heap.size 31 ((hdCells h).push (.slice A n c))) := Lib.hid (by rw [hW0]; exact Blk.new _ _ _)
  have HB0 : Hid (Below w.heap.size w W0) := Lib.hid (by rw [hW0]; exact (Below.refl _ w).alloc (Nat.le_refl _) _)
  have hs0 : w.heap.size ≤ W0.heap.size := HB0.out.size
  have HE := Lib.hid (encode_ok h hw f l hl A n c W0 (by
    have h1 := hb.below HB0.out
    obtain ⟨vs, h2, h3⟩ := h1.rows
    exact ⟨h1.len, vs, h2.more hs0, fun j x hx => by obtain ⟨A', c', e, hr⟩ := h3 j x hx; exact ⟨A', c', e, hr.more hs0⟩⟩))
  have HOB := Lib.hid (fun W => object_any h.key hkey.1 hkey.2 W)
  obtain ⟨nm, hnm⟩ : ∃ nm, nm = objN h.key := ⟨_, rfl⟩
  have HLK : Hid (∀ W, Calls Tryz.prog 124 #[.iface 36 (.pointer (some ⟨q, 0, none⟩)), .string ⟨nm.toArray⟩] W fun e w' => e = .returned (.int .i64 0) ∧ W = w') := Lib.hid fun W => by
    rw [hnm]
    exact look_obj q _ (by rw [objN_length]; omega) (by rw [objN_length]; omega) (objN_ne _) W
  have HNM : Hid (nm.length ≤ 511) := Lib.hid (by rw [hnm, objN_length]; omega)
  rw [← hnm] at hy HOB
  obtain ⟨bs, hbs⟩ : ∃ bs, bs = shardBytes h l := ⟨_, rfl⟩
  rw [← hbs] at hy HE hlen
  have HBL : Hid (bs.length ≤ 268500000) := Lib.hid (by rw [hlen]; exact hle)
  obtain ⟨CS, hCS⟩ : ∃ CS, CS = (hdCells h).push (.slice A n c) := ⟨_, rfl⟩
  have HV : Hid (shV h (.slice A n c) = .agg CS) := Lib.hid (by rw [hCS]; rfl)
  have HSZ : Hid (CS.size = 17) := Lib.hid (by rw [hCS, Array.size_push, hdCells_size hw.st])
  have HKY : Hid (CS[11]? = some (strV h.key)) := Lib.hid (by rw [hCS]; exact hd_key hw.st _)
  rw [← hCS] at HK0 hW0
  rw [HV.out] at HE ⊢
  obtain ⟨kv, hkv⟩ : ∃ kv, kv = strV h.key := ⟨_, rfl⟩
  rw [← hkv] at HKY HOB
  have HY := Lib.hid hy
  have HD := Lib.hid hd
  have HF := Lib.hid hF
  have HK := Lib.hid hk
  have HNR : Hid (ct + 5 ≤ 1152921504606846976 ∧ N + 5 ≤ 1073741824) := Lib.hid ⟨hc5, hNr⟩
  have HEQ := Lib.hid hW0
  clear hw f hl hb hd hF hk hc5 hNr hy hkey hlen hle hW0 hnm hbs hCS hkv
  go_enter Tryz.func14, Tryz.ntmps14
  go_wp2_with (refine wpList_load_at rfl 31 _ rfl ⟨w.heap.size, 0, none⟩ rfl (.agg CS) (by have := load_sh HK0.out HSZ.out; rw [HEQ.out] at this; exact this) ?_)
  rw [← HEQ.out]
  refine HE.out.mono ?_
  rintro e w1 ⟨u, rfl, ho1, hb1⟩
  obtain ⟨A1, c1, rfl, hc1⟩ := own_shape ho1
  have HO1 := Lib.hid ho1
  have HC1 := Lib.hid hc1
  have HB1 : Hid (Below W0.heap.size W0 w1) := Lib.hid hb1
  have y11 : w1.cell? ⟨w.heap.size, 11, none⟩ = some kv := (hb1.cell (p := ⟨w.heap.size, 11, none⟩) HK0.out.lt).trans ((HK0.out.cell 11).trans HKY.out)
  clear ho1 hb1 hc1
  go_wp2_with fail
  refine (HOB.out _).mono ?_
  rintro e w2 ⟨rfl, hb2⟩
  have HO2 := Lib.hid (ownsRow_below HO1.out hb2)
  have HB2 : Hid (Below w.heap.size w w2) := Lib.hid (HB0.out.trans ((HB1.out.trans (hb2.mono HB1.out.size)).mono hs0))
  have HS2 : Hid (W0.heap.size ≤ w2.heap.size) := Lib.hid (Nat.le_trans HB1.out.size hb2.size)
  clear hb2 y11
  unfold strV
  go_wp2_with fail
  have hpl := own_place HO2.out
  have hsz := HB2.out.size
  refine (awrite_any q p X S F ⟨nm.toArray⟩ A1 c1 bs w2 ct N r (HD.out.below HB2.out) (fun k hk => Nat.lt_of_lt_of_le (HF.out k hk) hsz) HLK.out (by have := HNM.out; show nm.toArray.size ≤ maxLen; rw [List.size_toArray]; unfold maxLen; omega) (fun W hW => ?_) (fun ad hA => ⟨(hpl ad hA).2, fun hk => ?_⟩) HC1.out (by have := HBL.out; omega) HK.out HNR.out.1 (by have := HNR.out; omega) HNR.out.2 Y T x HY.out).mono ?_
  · exact (Reads.touch (Reads.of_own HO2.out) hW (Nat.le_refl _) (fun ad hA hk => by
      have h1 := (hpl ad hA).1
      have h2 := HF.out _ hk
      omega)).more hW.size
  · have h1 := (hpl ad hA).1
    have h2 := HF.out _ hk
    omega
  · rintro e w3 ⟨rfl, hd3, ht3⟩
    have HE3 : Hid (WD w3 q p Y T (grow F w w3) ∧ Touch F w w3) := Lib.hid ⟨hd3.mono fun k hk => by
        rcases hk with h1 | h1
        · exact .inl h1
        · exact .inr ⟨Nat.le_trans hsz h1.1, h1.2⟩, (Touch.of_below HB2.out).trans (ht3.mono fun k _ hk => .inl hk)⟩
    clear hd3 ht3
    go_wp2_with fail
    go_ret
    exact ⟨rfl, HE3.out⟩
end Go.Proofs.YtcbebefdbdppdaaGreat

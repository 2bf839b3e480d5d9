/- The document's layer 13: Write, Remove.; The document's layer 13: Remove, Sweep.; The document's layer 13: Sweep; and the program's. -/
import Derived.Test.YtdmcjomcbhdcbaaGreatM29
import Derived.Test.YtdmcjomcbhdcbaaGreatM23
namespace Go.Proofs.YtdmcjomcbhdcbaaGreat
open Go.RowKit Go.Maps

theorem may_any (s : Nm) (w : World) (hs : s.length ≤ maxLen) : Calls Tryz.prog 99 #[.string ⟨s.toArray⟩] w fun e w' => e = .returned (.bool (lookE s == 0)) ∧ w = w' := by
  unfold maxLen at hs
  by_cases h1 : 1 ≤ s.length
  · by_cases h2 : s.length ≤ 1024
    · have hn : named s = true := (named_iff s).2 ⟨h1, h2⟩
      by_cases h3 : s = [116]
      · have e : (lookE s == 0) = false := by unfold lookE; rw [if_neg (fun h => h.2 h3)]; rfl
        subst h3
        rw [e]
        clear e hn
        go_enter Tryz.func99, Tryz.ntmps99
        go_wp2
        go_ret
        exact ⟨rfl, rfl⟩
      · have e : (lookE s == 0) = true := by unfold lookE; rw [if_pos ⟨hn, h3⟩]; rfl
        rw [e]
        have h4 : (s == [116]) = false := by simpa using h3
        clear e hn h3
        go_enter Tryz.func99, Tryz.ntmps99
        go_wp2
        go_ret
        exact ⟨rfl, rfl⟩
    · have e : (lookE s == 0) = false := by unfold lookE; rw [if_neg (fun h => h2 ((named_iff s).1 h.1).2)]; rfl
      rw [e]
      clear e
      go_enter Tryz.func99, Tryz.ntmps99
      go_wp2
      go_ret
      exact ⟨rfl, rfl⟩
  · have e : (lookE s == 0) = false := by unfold lookE; rw [if_neg (fun h => h1 ((named_iff s).1 h.1).1)]; rfl
    have h0 : s = [] := List.length_eq_zero_iff.1 (by omega)
    subst h0
    rw [e]
    clear e h1
    go_enter Tryz.func99, Tryz.ntmps99
    go_wp2
    go_ret
    exact ⟨rfl, rfl⟩
theorem dk_then {w w1 w2 : World} {q p : Nat} {X : Wnd} {S : Drv} {F : Nat → Prop} (ht1 : Touch F w w1) (h : DK w2 q p X S (grow (grow F w w1) w1 w2)) (ht : Touch (grow F w w1) w1 w2) : DK w2 q p X S (grow F w w2) ∧ Touch F w w2 := dk_end h ht1 (Below.refl _ _) ht
theorem aw_end {nm : Nm} {bs : List UInt8} {n i : Nat} {Z : Wnd × Drv} {y : Wnd × Drv × Int} (hy : awStep nm bs Z i = y) (h : y.2.2 ≠ 0) : awFrom nm bs (n + 1) i Z = y := by
  show (if (awStep nm bs Z i).2.2 = 0 then _ else awStep nm bs Z i) = y
  rw [hy, if_neg h]
theorem aw_go {nm : Nm} {bs : List UInt8} {n i : Nat} {Z : Wnd × Drv} {Y : Wnd} {T : Drv} (hy : awStep nm bs Z i = (Y, T, 0)) : awFrom nm bs (n + 1) i Z = awFrom nm bs n (i + 1) (Y, T) := by
  show (if (awStep nm bs Z i).2.2 = 0 then _ else awStep nm bs Z i) = _
  rw [hy]; exact if_pos rfl

set_option maxRecDepth 100000 in
set_option maxHeartbeats 8000000 in
theorem mwrite_any (q p : Nat) (X : Wnd) (S : Drv) (F : Nat → Prop) (nm : Nm) (A : Option Addr) (n c0 : Nat) (bs : List UInt8) (w : World) (k N r : Nat) (hnm : nm.length ≤ maxLen) (hd : DK w q p X S F) (hK : KeptM X S k N r) (hk5 : k + 5 ≤ 1152921504606846976) (hN5 : N + 5 ≤ 1073741824)
    (hn : n = bs.length) (hnl : n ≤ 1099511627776) (hnc : n ≤ c0) (hr : Reads w w.heap.size 1 A n (bs.map B8)) (hA : ∀ ad, A = some ad → 0 < n → ad.block < w.heap.size ∧ ¬F ad.block) (hlk : lookE nm = 0) :
    Calls Tryz.prog 69 #[.pointer (some ⟨q, 0, none⟩), .string ⟨nm.toArray⟩, .slice A n c0] w fun e w' => e = .returned (.int .i64 (awrite X S nm bs).2.2) ∧ DK w' q p (awrite X S nm bs).1 (awrite X S nm bs).2.1 (grow F w w') ∧ Touch F w w' := by
  have HMAY := Lib.hid (may_any nm w hnm)
  rw [hlk, show ((0 : Int) == 0) = true from rfl] at HMAY
  have HN := Lib.hid hn
  have HR : Hid (∀ W, Touch F w W → Reads W W.heap.size 1 A n (bs.map B8)) := Lib.hid fun W hW => (hr.touch0 hW (Nat.le_refl _) fun ad e h0 => (hA ad e h0).2).more hW.size
  have HA : Hid (∀ W, Touch F w W → ∀ ad, A = some ad → 0 < n → ¬ grow F w W ad.block) := Lib.hid fun W hW ad e h0 h => by
    have := hA ad e h0
    rcases h with h | h
    · exact this.2 h
    · omega
  have HD0 := Lib.hid hd
  have hXOk : ∀ (X : Wnd) (S : Drv) (i M : Nat), KeptM X S (k + i) M r → i ≤ 5 → X.Ok := fun _ _ _ _ h hi => h.k.wnd.ok (by omega)
  have HXO := Lib.hid hXOk
  clear hXOk hd hr hA hlk hn
  unfold awrite
  obtain ⟨X1, S1, x0, hy0⟩ : ∃ Y T x, awStep nm bs (X, S) 0 = (Y, T, x) := ⟨_, _, _, rfl⟩
  have hK1 : KeptM X1 S1 (k + 1) (N + 1) r := by have := awStep_keptM (Z := (X, S)) hK nm bs 0 (by omega); rw [hy0] at this; exact this
  by_cases hx0 : x0 = 0
  case neg =>
    rw [aw_end hy0 hx0]
    simp only
    have hb0 : (x0 == 0) = false := by simpa using hx0
    go_enter Tryz.func69, Tryz.ntmps69
    go_wp2_with (first
      | (go_at_call 99; refine HMAY.out.mono ?_; rintro e w' ⟨rfl, rfl⟩)
      | (go_at_call 100; have j := dcreate_any q p X S F [116] _ (by decide) HD0.out (HXO.out _ _ 0 _ hK (by omega)) hK.mok; rw [show wcall X S true (S.create [116]) = (X1, S1, x0) from hy0] at j; refine j.mono ?_; clear j; rintro e w1 ⟨rfl, hd1, ht1⟩; have HD1 := Lib.hid hd1; have HT1 := Lib.hid ht1; clear hd1 ht1)
      | fail)
    go_ret
    exact ⟨rfl, HD1.out, HT1.out⟩
  case pos =>
    subst hx0
    rw [aw_go hy0]
    obtain ⟨X2, S2, x1, hy1⟩ : ∃ Y T x, awStep nm bs (X1, S1) 1 = (Y, T, x) := ⟨_, _, _, rfl⟩
    have hK2 : KeptM X2 S2 (k + 2) (N + 2) r := by have := awStep_keptM (Z := (X1, S1)) hK1 nm bs 1 (by omega); rw [hy1] at this; exact this
    by_cases hx1 : x1 = 0
    case neg =>
      rw [aw_end hy1 hx1]
      simp only
      have hb1 : (x1 == 0) = false := by simpa using hx1
      go_enter Tryz.func69, Tryz.ntmps69
      go_wp2_with (first
        | (go_at_call 99; refine HMAY.out.mono ?_; rintro e w' ⟨rfl, rfl⟩)
        | (go_at_call 100; have j := dcreate_any q p X S F [116] _ (by decide) HD0.out (HXO.out _ _ 0 _ hK (by omega)) hK.mok; rw [show wcall X S true (S.create [116]) = (X1, S1, 0) from hy0] at j; refine j.mono ?_; clear j; rintro e w1 ⟨rfl, hd1, ht1⟩; have HD1 := Lib.hid hd1; have HT1 := Lib.hid ht1; clear hd1 ht1)
        | (go_at_call 101; have j := dappend_any q p X1 S1 _ [116] A n c0 bs _ (by decide) HD1.out (HXO.out _ _ 1 _ hK1 (by omega)) hK1.k.drv hK1.mok HN.out hnl hnc (HR.out _ HT1.out) (HA.out _ HT1.out); rw [show wappend X1 S1 [116] bs = (X2, S2, x1) from hy1] at j; refine j.mono ?_; clear j; rintro e w2 ⟨rfl, hd1, ht1⟩; have hde := dk_then HT1.out hd1 ht1; have HD2 := Lib.hid hde.1; have HT2 := Lib.hid hde.2; clear hd1 ht1 hde)
        | fail)
      go_ret
      exact ⟨rfl, HD2.out, HT2.out⟩
    case pos =>
      subst hx1
      rw [aw_go hy1]
      obtain ⟨X3, S3, x2, hy2⟩ : ∃ Y T x, awStep nm bs (X2, S2) 2 = (Y, T, x) := ⟨_, _, _, rfl⟩
      have hK3 : KeptM X3 S3 (k + 3) (N + 3) r := by have := awStep_keptM (Z := (X2, S2)) hK2 nm bs 2 (by omega); rw [hy2] at this; exact this
      by_cases hx2 : x2 = 0
      case neg =>
        rw [aw_end hy2 hx2]
        simp only
        have hb2 : (x2 == 0) = false := by simpa using hx2
        go_enter Tryz.func69, Tryz.ntmps69
        go_wp2_with (first
          | (go_at_call 99; refine HMAY.out.mono ?_; rintro e w' ⟨rfl, rfl⟩)
          | (go_at_call 100; have j := dcreate_any q p X S F [116] _ (by decide) HD0.out (HXO.out _ _ 0 _ hK (by omega)) hK.mok; rw [show wcall X S true (S.create [116]) = (X1, S1, 0) from hy0] at j; refine j.mono ?_; clear j; rintro e w1 ⟨rfl, hd1, ht1⟩; have HD1 := Lib.hid hd1; have HT1 := Lib.hid ht1; clear hd1 ht1)
          | (go_at_call 101; have j := dappend_any q p X1 S1 _ [116] A n c0 bs _ (by decide) HD1.out (HXO.out _ _ 1 _ hK1 (by omega)) hK1.k.drv hK1.mok HN.out hnl hnc (HR.out _ HT1.out) (HA.out _ HT1.out); rw [show wappend X1 S1 [116] bs = (X2, S2, 0) from hy1] at j; refine j.mono ?_; clear j; rintro e w2 ⟨rfl, hd1, ht1⟩; have hde := dk_then HT1.out hd1 ht1; have HD2 := Lib.hid hde.1; have HT2 := Lib.hid hde.2; clear hd1 ht1 hde)
          | (go_at_call 102; have j := dsync_any q p X2 S2 _ [116] _ (by decide) HD2.out (HXO.out _ _ 2 _ hK2 (by omega)) hK2.mok; rw [show wcall X2 S2 false (S2.sync [116]) = (X3, S3, x2) from hy2] at j; refine j.mono ?_; clear j; rintro e w3 ⟨rfl, hd1, ht1⟩; have hde := dk_then HT2.out hd1 ht1; have HD3 := Lib.hid hde.1; have HT3 := Lib.hid hde.2; clear hd1 ht1 hde)
          | fail)
        go_ret
        exact ⟨rfl, HD3.out, HT3.out⟩
      case pos =>
        subst hx2
        rw [aw_go hy2]
        obtain ⟨X4, S4, x3, hy3⟩ : ∃ Y T x, awStep nm bs (X3, S3) 3 = (Y, T, x) := ⟨_, _, _, rfl⟩
        have hK4 : KeptM X4 S4 (k + 4) (N + 4) r := by have := awStep_keptM (Z := (X3, S3)) hK3 nm bs 3 (by omega); rw [hy3] at this; exact this
        by_cases hx3 : x3 = 0
        case neg =>
          rw [aw_end hy3 hx3]
          simp only
          have hb3 : (x3 == 0) = false := by simpa using hx3
          go_enter Tryz.func69, Tryz.ntmps69
          go_wp2_with (first
            | (go_at_call 99; refine HMAY.out.mono ?_; rintro e w' ⟨rfl, rfl⟩)
            | (go_at_call 100; have j := dcreate_any q p X S F [116] _ (by decide) HD0.out (HXO.out _ _ 0 _ hK (by omega)) hK.mok; rw [show wcall X S true (S.create [116]) = (X1, S1, 0) from hy0] at j; refine j.mono ?_; clear j; rintro e w1 ⟨rfl, hd1, ht1⟩; have HD1 := Lib.hid hd1; have HT1 := Lib.hid ht1; clear hd1 ht1)
            | (go_at_call 101; have j := dappend_any q p X1 S1 _ [116] A n c0 bs _ (by decide) HD1.out (HXO.out _ _ 1 _ hK1 (by omega)) hK1.k.drv hK1.mok HN.out hnl hnc (HR.out _ HT1.out) (HA.out _ HT1.out); rw [show wappend X1 S1 [116] bs = (X2, S2, 0) from hy1] at j; refine j.mono ?_; clear j; rintro e w2 ⟨rfl, hd1, ht1⟩; have hde := dk_then HT1.out hd1 ht1; have HD2 := Lib.hid hde.1; have HT2 := Lib.hid hde.2; clear hd1 ht1 hde)
            | (go_at_call 102; have j := dsync_any q p X2 S2 _ [116] _ (by decide) HD2.out (HXO.out _ _ 2 _ hK2 (by omega)) hK2.mok; rw [show wcall X2 S2 false (S2.sync [116]) = (X3, S3, 0) from hy2] at j; refine j.mono ?_; clear j; rintro e w3 ⟨rfl, hd1, ht1⟩; have hde := dk_then HT2.out hd1 ht1; have HD3 := Lib.hid hde.1; have HT3 := Lib.hid hde.2; clear hd1 ht1 hde)
            | (go_at_call 103; have j := drename_any q p X3 S3 _ [116] nm _ (by decide) hnm HD3.out (HXO.out _ _ 3 _ hK3 (by omega)) hK3.mok; rw [show wcall X3 S3 false (S3.rename [116] nm) = (X4, S4, x3) from hy3] at j; refine j.mono ?_; clear j; rintro e w4 ⟨rfl, hd1, ht1⟩; have hde := dk_then HT3.out hd1 ht1; have HD4 := Lib.hid hde.1; have HT4 := Lib.hid hde.2; clear hd1 ht1 hde)
            | fail)
          go_ret
          exact ⟨rfl, HD4.out, HT4.out⟩
        case pos =>
          subst hx3
          rw [aw_go hy3]
          obtain ⟨X5, S5, x4, hy4⟩ : ∃ Y T x, awStep nm bs (X4, S4) 4 = (Y, T, x) := ⟨_, _, _, rfl⟩
          have hK5 : KeptM X5 S5 (k + 5) (N + 5) r := by have := awStep_keptM (Z := (X4, S4)) hK4 nm bs 4 (by omega); rw [hy4] at this; exact this
          by_cases hx4 : x4 = 0
          case neg =>
            rw [aw_end hy4 hx4]
            simp only
            go_enter Tryz.func69, Tryz.ntmps69
            go_wp2_with (first
              | (go_at_call 99; refine HMAY.out.mono ?_; rintro e w' ⟨rfl, rfl⟩)
              | (go_at_call 100; have j := dcreate_any q p X S F [116] _ (by decide) HD0.out (HXO.out _ _ 0 _ hK (by omega)) hK.mok; rw [show wcall X S true (S.create [116]) = (X1, S1, 0) from hy0] at j; refine j.mono ?_; clear j; rintro e w1 ⟨rfl, hd1, ht1⟩; have HD1 := Lib.hid hd1; have HT1 := Lib.hid ht1; clear hd1 ht1)
              | (go_at_call 101; have j := dappend_any q p X1 S1 _ [116] A n c0 bs _ (by decide) HD1.out (HXO.out _ _ 1 _ hK1 (by omega)) hK1.k.drv hK1.mok HN.out hnl hnc (HR.out _ HT1.out) (HA.out _ HT1.out); rw [show wappend X1 S1 [116] bs = (X2, S2, 0) from hy1] at j; refine j.mono ?_; clear j; rintro e w2 ⟨rfl, hd1, ht1⟩; have hde := dk_then HT1.out hd1 ht1; have HD2 := Lib.hid hde.1; have HT2 := Lib.hid hde.2; clear hd1 ht1 hde)
              | (go_at_call 102; have j := dsync_any q p X2 S2 _ [116] _ (by decide) HD2.out (HXO.out _ _ 2 _ hK2 (by omega)) hK2.mok; rw [show wcall X2 S2 false (S2.sync [116]) = (X3, S3, 0) from hy2] at j; refine j.mono ?_; clear j; rintro e w3 ⟨rfl, hd1, ht1⟩; have hde := dk_then HT2.out hd1 ht1; have HD3 := Lib.hid hde.1; have HT3 := Lib.hid hde.2; clear hd1 ht1 hde)
              | (go_at_call 103; have j := drename_any q p X3 S3 _ [116] nm _ (by decide) hnm HD3.out (HXO.out _ _ 3 _ hK3 (by omega)) hK3.mok; rw [show wcall X3 S3 false (S3.rename [116] nm) = (X4, S4, 0) from hy3] at j; refine j.mono ?_; clear j; rintro e w4 ⟨rfl, hd1, ht1⟩; have hde := dk_then HT3.out hd1 ht1; have HD4 := Lib.hid hde.1; have HT4 := Lib.hid hde.2; clear hd1 ht1 hde)
              | (go_at_call 104; have j := dsyncDir_any q p X4 S4 _ _ HD4.out (HXO.out _ _ 4 _ hK4 (by omega)) hK4.mok; rw [show wcall X4 S4 false (S4.syncDir, 0) = (X5, S5, x4) from hy4] at j; refine j.mono ?_; clear j; rintro e w5 ⟨rfl, hd1, ht1⟩; have hde := dk_then HT4.out hd1 ht1; have HD5 := Lib.hid hde.1; have HT5 := Lib.hid hde.2; clear hd1 ht1 hde)
              | fail)
            go_ret
            exact ⟨rfl, HD5.out, HT5.out⟩
          case pos =>
            subst hx4
            rw [aw_go hy4]
            show Calls _ _ _ _ fun e w' => e = .returned (.int .i64 0) ∧ DK w' q p X5 S5 (grow F w w') ∧ Touch F w w'
            go_enter Tryz.func69, Tryz.ntmps69
            go_wp2_with (first
              | (go_at_call 99; refine HMAY.out.mono ?_; rintro e w' ⟨rfl, rfl⟩)
              | (go_at_call 100; have j := dcreate_any q p X S F [116] _ (by decide) HD0.out (HXO.out _ _ 0 _ hK (by omega)) hK.mok; rw [show wcall X S true (S.create [116]) = (X1, S1, 0) from hy0] at j; refine j.mono ?_; clear j; rintro e w1 ⟨rfl, hd1, ht1⟩; have HD1 := Lib.hid hd1; have HT1 := Lib.hid ht1; clear hd1 ht1)
              | (go_at_call 101; have j := dappend_any q p X1 S1 _ [116] A n c0 bs _ (by decide) HD1.out (HXO.out _ _ 1 _ hK1 (by omega)) hK1.k.drv hK1.mok HN.out hnl hnc (HR.out _ HT1.out) (HA.out _ HT1.out); rw [show wappend X1 S1 [116] bs = (X2, S2, 0) from hy1] at j; refine j.mono ?_; clear j; rintro e w2 ⟨rfl, hd1, ht1⟩; have hde := dk_then HT1.out hd1 ht1; have HD2 := Lib.hid hde.1; have HT2 := Lib.hid hde.2; clear hd1 ht1 hde)
              | (go_at_call 102; have j := dsync_any q p X2 S2 _ [116] _ (by decide) HD2.out (HXO.out _ _ 2 _ hK2 (by omega)) hK2.mok; rw [show wcall X2 S2 false (S2.sync [116]) = (X3, S3, 0) from hy2] at j; refine j.mono ?_; clear j; rintro e w3 ⟨rfl, hd1, ht1⟩; have hde := dk_then HT2.out hd1 ht1; have HD3 := Lib.hid hde.1; have HT3 := Lib.hid hde.2; clear hd1 ht1 hde)
              | (go_at_call 103; have j := drename_any q p X3 S3 _ [116] nm _ (by decide) hnm HD3.out (HXO.out _ _ 3 _ hK3 (by omega)) hK3.mok; rw [show wcall X3 S3 false (S3.rename [116] nm) = (X4, S4, 0) from hy3] at j; refine j.mono ?_; clear j; rintro e w4 ⟨rfl, hd1, ht1⟩; have hde := dk_then HT3.out hd1 ht1; have HD4 := Lib.hid hde.1; have HT4 := Lib.hid hde.2; clear hd1 ht1 hde)
              | (go_at_call 104; have j := dsyncDir_any q p X4 S4 _ _ HD4.out (HXO.out _ _ 4 _ hK4 (by omega)) hK4.mok; rw [show wcall X4 S4 false (S4.syncDir, 0) = (X5, S5, 0) from hy4] at j; refine j.mono ?_; clear j; rintro e w5 ⟨rfl, hd1, ht1⟩; have hde := dk_then HT4.out hd1 ht1; have HD5 := Lib.hid hde.1; have HT5 := Lib.hid hde.2; clear hd1 ht1 hde)
              | fail)
            go_ret
            exact ⟨rfl, HD5.out, HT5.out⟩
end Go.Proofs.YtdmcjomcbhdcbaaGreat
namespace Go.Proofs.YtdmcjomcbhdcbaaGreat
open Go.RowKit Go.Maps

set_option maxRecDepth 100000 in
set_option maxHeartbeats 4000000 in
theorem mremo_any (q p : Nat) (X : Wnd) (S : Drv) (F : Nat → Prop) (nm : Nm) (w : World) (k N r : Nat) (hnm : nm.length ≤ maxLen) (hd : DK w q p X S F) (hK : KeptM X S k N r) (hk2 : k + 2 ≤ 1152921504606846976) (hN2 : N + 2 ≤ 1073741824) (hlk : lookE nm = 0) :
    Calls Tryz.prog 70 #[.pointer (some ⟨q, 0, none⟩), .string ⟨nm.toArray⟩] w fun e w' => e = .returned (.int .i64 (aremove X S nm).2.2) ∧ DK w' q p (aremove X S nm).1 (aremove X S nm).2.1 (grow F w w') ∧ Touch F w w' := by
  have HMAY := Lib.hid (may_any nm w hnm)
  rw [hlk, show ((0 : Int) == 0) = true from rfl] at HMAY
  have HD0 := Lib.hid hd
  have hX := hK.k.wnd.ok (show k ≤ 1152921504606846976 by omega)
  obtain ⟨X1, S1, x1, hy1⟩ : ∃ Y T x, wcall X S false (S.remove nm) = (Y, T, x) := ⟨_, _, _, rfl⟩
  have hK1 : KeptM X1 S1 (k + 1) (N + 1) r := by
    have := wcall_keptM hK false (S.remove nm) (Drv.remove_inv hK.k.drv _ (by omega)) (Drv.remove_keepsRoom _ _) ((Drv.remove_refs hK.m _).mono (by omega)) (by omega)
    rw [hy1] at this; exact this
  have hX1 := hK1.k.wnd.ok (show k + 1 ≤ 1152921504606846976 by omega)
  have hC := dremove_any q p X S F nm w hnm hd hX hK.mok
  rw [hy1] at hC
  simp only at hC
  have HC := Lib.hid hC
  have HK1 := Lib.hid hK1
  have HX1 := Lib.hid hX1
  by_cases h0 : x1 ≠ 0 ∧ x1 ≠ 110
  · have HR : Hid (aremove X S nm = (X1, S1, x1)) := Lib.hid (by unfold aremove; rw [hy1]; exact if_pos h0)
    rw [HR.out]
    simp only
    obtain ⟨h1, h2⟩ := h0
    have hb1 : (x1 != 0) = true := by simpa using h1
    have hb2 : (x1 != 110) = true := by simpa using h2
    clear hd hK hC hK1 hX1 hX h1 h2 hlk
    go_enter Tryz.func70, Tryz.ntmps70
    go_wp2_with (first
      | (go_at_call 99; refine HMAY.out.mono ?_; rintro e w' ⟨rfl, rfl⟩)
      | (go_at_call 105; refine HC.out.mono ?_; rintro e w1 ⟨rfl, hd1, ht1⟩; have HD1 := Lib.hid hd1; have HT1 := Lib.hid ht1; clear hd1 ht1)
      | fail)
    go_ret
    exact ⟨rfl, HD1.out, HT1.out⟩
  · obtain ⟨X2, S2, x2, hy2⟩ : ∃ Y T x, wcall X1 S1 false (S1.syncDir, 0) = (Y, T, x) := ⟨_, _, _, rfl⟩
    have HY2 := Lib.hid hy2
    have HR : Hid (aremove X S nm = (X2, S2, x2)) := Lib.hid (by unfold aremove; rw [hy1]; rw [if_neg h0]; exact hy2)
    rw [HR.out]
    simp only
    have hx : x1 = 0 ∨ x1 = 110 := by omega
    clear hd hK hC hK1 hX1 hX h0 hlk hy2 hy1
    rcases hx with rfl | rfl
    all_goals
      go_enter Tryz.func70, Tryz.ntmps70
      go_wp2_with (first
        | (go_at_call 99; refine HMAY.out.mono ?_; rintro e w' ⟨rfl, rfl⟩)
        | (go_at_call 105; refine HC.out.mono ?_; rintro e w1 ⟨rfl, hd1, ht1⟩; have HD1 := Lib.hid hd1; have HT1 := Lib.hid ht1; clear hd1 ht1)
        | (go_at_call 104; have j := dsyncDir_any q p X1 S1 _ _ HD1.out HX1.out HK1.out.mok; rw [HY2.out] at j; refine j.mono ?_; clear j; rintro e w2 ⟨rfl, hd1, ht1⟩; have hde := dk_then HT1.out hd1 ht1; have HD2 := Lib.hid hde.1; have HT2 := Lib.hid hde.2; clear hd1 ht1 hde)
        | fail)
      go_ret
      exact ⟨rfl, HD2.out, HT2.out⟩
theorem mremo_bad (q : Nat) (nm : Nm) (w : World) (hnm : nm.length ≤ maxLen) (hlk : lookE nm ≠ 0) : Calls Tryz.prog 70 #[.pointer (some ⟨q, 0, none⟩), .string ⟨nm.toArray⟩] w fun e w' => e = .returned (.int .i64 91) ∧ w = w' := by
  have HMAY := Lib.hid (may_any nm w hnm)
  rw [show (lookE nm == 0) = false by simpa using hlk] at HMAY
  go_enter Tryz.func70, Tryz.ntmps70
  go_wp2_with (go_at_call 99; refine HMAY.out.mono ?_; rintro e w' ⟨rfl, rfl⟩)
  go_ret
  exact ⟨rfl, rfl⟩
theorem mwrite_bad (q : Nat) (nm : Nm) (A : Option Addr) (n c : Nat) (w : World) (hnm : nm.length ≤ maxLen) (hlk : lookE nm ≠ 0) : Calls Tryz.prog 69 #[.pointer (some ⟨q, 0, none⟩), .string ⟨nm.toArray⟩, .slice A n c] w fun e w' => e = .returned (.int .i64 91) ∧ w = w' := by
  have HMAY := Lib.hid (may_any nm w hnm)
  rw [show (lookE nm == 0) = false by simpa using hlk] at HMAY
  go_enter Tryz.func69, Tryz.ntmps69
  go_wp2_with (go_at_call 99; refine HMAY.out.mono ?_; rintro e w' ⟨rfl, rfl⟩)
  go_ret
  exact ⟨rfl, rfl⟩

/-- A sweep, behind the list of names and the removal: the directory is made safe. -/
def asweepEnd (X : Wnd) (S : Drv) (n : Int) : Wnd × Drv × Int × Int :=
  if (wcall X S false (S.syncDir, 0)).2.2 = 0 then ((wcall X S false (S.syncDir, 0)).1, (wcall X S false (S.syncDir, 0)).2.1, n, 0)
  else ((wcall X S false (S.syncDir, 0)).1, (wcall X S false (S.syncDir, 0)).2.1, 0, (wcall X S false (S.syncDir, 0)).2.2)
def asweep (X : Wnd) (S : Drv) : Wnd × Drv × Int × Int :=
  if (wread X (dnames S.now, (0 : Int))).2.2 ≠ 0 then ((wread X (dnames S.now, (0 : Int))).1, S, 0, (wread X (dnames S.now, (0 : Int))).2.2)
  else if (wread X (dnames S.now, (0 : Int))).2.1.contains [116] = true then
    (if (wcall (wread X (dnames S.now, (0 : Int))).1 S false (S.remove [116])).2.2 ≠ 0 then ((wcall (wread X (dnames S.now, (0 : Int))).1 S false (S.remove [116])).1, (wcall (wread X (dnames S.now, (0 : Int))).1 S false (S.remove [116])).2.1, 0, (wcall (wread X (dnames S.now, (0 : Int))).1 S false (S.remove [116])).2.2)
     else asweepEnd (wcall (wread X (dnames S.now, (0 : Int))).1 S false (S.remove [116])).1 (wcall (wread X (dnames S.now, (0 : Int))).1 S false (S.remove [116])).2.1 1)
  else asweepEnd (wread X (dnames S.now, (0 : Int))).1 S 0
end Go.Proofs.YtdmcjomcbhdcbaaGreat
namespace Go.Proofs.YtdmcjomcbhdcbaaGreat
open Go.RowKit Go.Maps

theorem contains_take (l : List Nm) (j : Nat) {s : Nm} (h : l[j]? = some s) : (l.take (j + 1)).contains [116] = ((l.take j).contains [116] || s == [116]) := by
  rw [take_snoc_ h]
  by_cases e : s = [116]
  · subst e; simp
  · have e2 : (s == [116]) = false := by simpa using e
    have e3 : ¬ [116] = s := fun h => e h.symm
    rw [e2, Bool.or_false]
    simp [e3]
def hasT (l : List Nm) (j : Nat) : Int := if (l.take j).contains [116] = true then 1 else 0

set_option maxRecDepth 100000 in
set_option maxHeartbeats 4000000 in
theorem msweep_any (q p : Nat) (X : Wnd) (S : Drv) (F : Nat → Prop) (w : World) (k N r : Nat) (hd : DK w q p X S F) (hK : KeptM X S k N r) (hk2 : k + 3 ≤ 1152921504606846976) (hN2 : N + 3 ≤ 1073741824) :
    Calls Tryz.prog 71 #[.pointer (some ⟨q, 0, none⟩)] w fun e w' => e = .returned (.tuple #[.int .i64 (asweep X S).2.2.1, .int .i64 (asweep X S).2.2.2]) ∧ DK w' q p (asweep X S).1 (asweep X S).2.1 (grow F w w') ∧ Touch F w w' := by
  have HD0 := Lib.hid hd
  have hX := hK.k.wnd.ok (show k ≤ 1152921504606846976 by omega)
  obtain ⟨X1, l, x1, hy1⟩ : ∃ Y T x, wread X (dnames S.now, (0 : Int)) = (Y, T, x) := ⟨_, _, _, rfl⟩
  have hll : l.length ≤ 1073741824 := by
    have h1 : l = dnames S.now ∨ l = [] := by
      unfold wread at hy1
      split at hy1
      · injection hy1 with _ h; injection h with h _; exact .inl h.symm
      · injection hy1 with _ h; injection h with h _; exact .inr h.symm
    rcases h1 with h1 | h1
    · rw [h1, dnames_length]; have := hK.k.drv.snow; have := hK.k.drv.rooms; omega
    · rw [h1]; simp
  have hK1 : KeptM X1 S (k + 1) (N + 1) r := by
    have := wread_keptM hK (dnames S.now, (0 : Int)) (by omega)
    rw [hy1] at this; exact this
  have hX1 := hK1.k.wnd.ok (show k + 1 ≤ 1152921504606846976 by omega)
  have hC := dlist_any q p X S F w hd hX hK.mok
  rw [hy1] at hC
  simp only at hC
  have HC := Lib.hid hC
  have HK1 := Lib.hid hK1
  have HX1 := Lib.hid hX1
  obtain ⟨m, hm⟩ : ∃ m, m = l.length := ⟨_, rfl⟩
  rw [← hm] at HC hll
  have HM := Lib.hid hm
  have HY1 := Lib.hid hy1
  by_cases h0 : x1 ≠ 0
  · have HR : Hid (asweep X S = (X1, S, 0, x1)) := Lib.hid (by unfold asweep; rw [hy1]; exact if_pos h0)
    rw [HR.out]
    simp only
    have hb1 : (x1 != 0) = true := by simpa using h0
    clear hd hK hC hK1 hX1 hX h0 hy1 hm
    go_enter Tryz.func71, Tryz.ntmps71
    go_wp2_with (go_at_call 73; refine HC.out.mono ?_; rintro e w1 ⟨v, rfl, ho, hd1, ht1⟩; have HO := Lib.hid ho; have HD1 := Lib.hid hd1; have HT1 := Lib.hid ht1; clear ho hd1 ht1)
    go_ret2
    exact ⟨rfl, HD1.out, HT1.out⟩
  · have h0' : x1 = 0 := by omega
    subst h0'
    have hR : asweep X S = if l.contains [116] = true then (if (wcall X1 S false (S.remove [116])).2.2 ≠ 0 then ((wcall X1 S false (S.remove [116])).1, (wcall X1 S false (S.remove [116])).2.1, 0, (wcall X1 S false (S.remove [116])).2.2) else asweepEnd (wcall X1 S false (S.remove [116])).1 (wcall X1 S false (S.remove [116])).2.1 1) else asweepEnd X1 S 0 := by
      unfold asweep; rw [hy1]; exact if_neg h0
    obtain ⟨XA, SA, nA, xA, hA⟩ : ∃ a b c d, asweep X S = (a, b, c, d) := ⟨_, _, _, _, rfl⟩
    rw [hA] at hR ⊢
    simp only
    have HR := Lib.hid hR
    obtain ⟨X2, S2, x2, hy2⟩ : ∃ Y T x, wcall X1 S false (S.remove [116]) = (Y, T, x) := ⟨_, _, _, rfl⟩
    have hK2 : KeptM X2 S2 (k + 2) (N + 2) r := by
      have := wcall_keptM hK1 false (S.remove [116]) (Drv.remove_inv hK1.k.drv _ (by omega)) (Drv.remove_keepsRoom _ _) ((Drv.remove_refs hK1.m _).mono (by omega)) (by omega)
      rw [hy2] at this; exact this
    have HK2 := Lib.hid hK2
    have HX2 := Lib.hid (hK2.k.wnd.ok (show k + 2 ≤ 1152921504606846976 by omega))
    have HY2 := Lib.hid hy2
    clear hd hK hC hK1 hX1 hX h0 hy1 hm hR hK2 hy2 hA
    go_enter Tryz.func71, Tryz.ntmps71
    go_wp2_with (go_at_call 73; refine HC.out.mono ?_; rintro e w1 ⟨v, rfl, ho, hd1, ht1⟩; obtain ⟨al, cl, rfl, _⟩ := own_shape ho; have HO := Lib.hid ho; have HD1 := Lib.hid hd1; have HT1 := Lib.hid ht1; clear ho hd1 ht1)
    go_loopw [6, 7] (fun s6 s7 wr => ∃ j : Nat, j ≤ m ∧ s7 = .int .i64 j ∧ s6 = .int .i64 (hasT l j) ∧ wr = w1) (fun _ s _ => m - (intOf s).toNat)
    case atStart => exact ⟨0, Nat.zero_le _, rfl, rfl, rfl⟩
    case round =>
      obtain ⟨j, hj, rfl, rfl, rfl⟩ := hrel
      by_cases hlt : j < m
      · obtain ⟨s, hs⟩ : ∃ s, l[j]? = some s := ⟨_, List.getElem?_eq_getElem (by rw [← HM.out]; exact hlt)⟩
        obtain ⟨ad, u, rfl, _, hu, hcu⟩ := (Reads.of_own HO.out).at_ (k := j) hlt
        have hus : u = strV s := by rw [List.getElem?_map, hs] at hu; exact (Option.some.inj hu).symm
        subst hus
        simp only [strV] at hcu
        have hct := contains_take l j hs
        by_cases h1 : s = [116]
        · have HST : Hid (hasT l (j + 1) = 1) := Lib.hid (by unfold hasT; rw [hct, h1]; simp)
          subst h1
          clear hct hs hu
          go_wp2
          go_roundw
          case rel => exact ⟨j + 1, by omega, by go_num, by rw [HST.out], by first | trivial | rfl⟩
          case measure => simp [intOf]; omega
        · have h2 : (s == [116]) = false := by simpa using h1
          have HST : Hid (hasT l (j + 1) = hasT l j) := Lib.hid (by unfold hasT; rw [hct, h2, Bool.or_false])
          clear hct hs hu h1
          go_wp2
          go_roundw
          case rel => exact ⟨j + 1, by omega, by go_num, by rw [HST.out], by first | trivial | rfl⟩
          case measure => simp [intOf]; omega
      · have hjm : j = m := by omega
        subst hjm
        have hht : hasT l j = if l.contains [116] = true then 1 else 0 := by unfold hasT; rw [List.take_of_length_le (by rw [← HM.out]; exact Nat.le_refl _)]
        cases hc : l.contains [116] with
        | false =>
          have e1 : hasT l j = 0 := by rw [hht, hc]; rfl
          rw [e1]
          have hR2 : (XA, SA, nA, xA) = asweepEnd X1 S 0 := by rw [HR.out, hc]; rfl
          obtain ⟨X3, S3, x3, hy3⟩ : ∃ Y T x, wcall X1 S false (S.syncDir, 0) = (Y, T, x) := ⟨_, _, _, rfl⟩
          have HY3 := Lib.hid hy3
          unfold asweepEnd at hR2
          rw [hy3] at hR2
          simp only at hR2
          clear hht hc e1 hy3
          by_cases h3 : x3 = 0
          · subst h3
            simp only [if_true, Prod.mk.injEq] at hR2
            obtain ⟨rfl, rfl, rfl, rfl⟩ := hR2
            go_wp2_with (go_at_call 104; have j := dsyncDir_any q p X1 S _ _ HD1.out HX1.out HK1.out.mok; rw [HY3.out] at j; refine j.mono ?_; clear j; rintro e w2 ⟨rfl, hd1, ht1⟩; have hde := dk_then HT1.out hd1 ht1; have HD2 := Lib.hid hde.1; have HT2 := Lib.hid hde.2; clear hd1 ht1 hde)
            go_ret2
            exact ⟨rfl, HD2.out, HT2.out⟩
          · rw [if_neg h3] at hR2
            have h4 : (x3 != 0) = true := by simpa using h3
            simp only [Prod.mk.injEq] at hR2
            obtain ⟨rfl, rfl, rfl, rfl⟩ := hR2
            clear h3
            go_wp2_with (go_at_call 104; have j := dsyncDir_any q p X1 S _ _ HD1.out HX1.out HK1.out.mok; rw [HY3.out] at j; refine j.mono ?_; clear j; rintro e w2 ⟨rfl, hd1, ht1⟩; have hde := dk_then HT1.out hd1 ht1; have HD2 := Lib.hid hde.1; have HT2 := Lib.hid hde.2; clear hd1 ht1 hde)
            go_ret2
            exact ⟨rfl, HD2.out, HT2.out⟩
        | true =>
          have e1 : hasT l j = 1 := by rw [hht, hc]; rfl
          rw [e1]
          have hR2 : (XA, SA, nA, xA) = if x2 ≠ 0 then (X2, S2, 0, x2) else asweepEnd X2 S2 1 := by rw [HR.out, hc, HY2.out]; rfl
          clear hht hc e1
          by_cases h2 : x2 = 0
          · subst h2
            rw [if_neg (by simp)] at hR2
            obtain ⟨X3, S3, x3, hy3⟩ : ∃ Y T x, wcall X2 S2 false (S2.syncDir, 0) = (Y, T, x) := ⟨_, _, _, rfl⟩
            have HY3 := Lib.hid hy3
            unfold asweepEnd at hR2
            rw [hy3] at hR2
            simp only at hR2
            clear hy3
            by_cases h3 : x3 = 0
            · subst h3
              simp only [if_true, Prod.mk.injEq] at hR2
              obtain ⟨rfl, rfl, rfl, rfl⟩ := hR2
              go_wp2_with (first
                | (go_at_call 105; have j := dremove_any q p X1 S _ [116] _ (by decide) HD1.out HX1.out HK1.out.mok; rw [HY2.out] at j; refine j.mono ?_; clear j; rintro e w2 ⟨rfl, hd1, ht1⟩; have hde := dk_then HT1.out hd1 ht1; have HD2 := Lib.hid hde.1; have HT2 := Lib.hid hde.2; clear hd1 ht1 hde)
                | (go_at_call 104; have j := dsyncDir_any q p X2 S2 _ _ HD2.out HX2.out HK2.out.mok; rw [HY3.out] at j; refine j.mono ?_; clear j; rintro e w3 ⟨rfl, hd1, ht1⟩; have hde := dk_then HT2.out hd1 ht1; have HD3 := Lib.hid hde.1; have HT3 := Lib.hid hde.2; clear hd1 ht1 hde)
                | fail)
              go_ret2
              exact ⟨rfl, HD3.out, HT3.out⟩
            · rw [if_neg h3] at hR2
              have h4 : (x3 != 0) = true := by simpa using h3
              simp only [Prod.mk.injEq] at hR2
              obtain ⟨rfl, rfl, rfl, rfl⟩ := hR2
              clear h3
              go_wp2_with (first
                | (go_at_call 105; have j := dremove_any q p X1 S _ [116] _ (by decide) HD1.out HX1.out HK1.out.mok; rw [HY2.out] at j; refine j.mono ?_; clear j; rintro e w2 ⟨rfl, hd1, ht1⟩; have hde := dk_then HT1.out hd1 ht1; have HD2 := Lib.hid hde.1; have HT2 := Lib.hid hde.2; clear hd1 ht1 hde)
                | (go_at_call 104; have j := dsyncDir_any q p X2 S2 _ _ HD2.out HX2.out HK2.out.mok; rw [HY3.out] at j; refine j.mono ?_; clear j; rintro e w3 ⟨rfl, hd1, ht1⟩; have hde := dk_then HT2.out hd1 ht1; have HD3 := Lib.hid hde.1; have HT3 := Lib.hid hde.2; clear hd1 ht1 hde)
                | fail)
              go_ret2
              exact ⟨rfl, HD3.out, HT3.out⟩
          · rw [if_pos h2] at hR2
            have h4 : (x2 != 0) = true := by simpa using h2
            simp only [Prod.mk.injEq] at hR2
            obtain ⟨rfl, rfl, rfl, rfl⟩ := hR2
            clear h2
            go_wp2_with (go_at_call 105; have j := dremove_any q p X1 S _ [116] _ (by decide) HD1.out HX1.out HK1.out.mok; rw [HY2.out] at j; refine j.mono ?_; clear j; rintro e w2 ⟨rfl, hd1, ht1⟩; have hde := dk_then HT1.out hd1 ht1; have HD2 := Lib.hid hde.1; have HT2 := Lib.hid hde.2; clear hd1 ht1 hde)
            go_ret2
            exact ⟨rfl, HD2.out, HT2.out⟩
end Go.Proofs.YtdmcjomcbhdcbaaGreat

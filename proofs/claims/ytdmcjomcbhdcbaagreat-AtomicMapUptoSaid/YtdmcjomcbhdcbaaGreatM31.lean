/- The program's Sweep, over a wound.; Bytes that are lent with marks behind them.; What a law writes: bytes that are lent, marked, and written over behind the call. -/
import Derived.Test.YtdmcjomcbhdcbaaGreatM30
import Derived.Test.YtdmcjomcbhdcbaaGreatM24
namespace Go.Proofs.YtdmcjomcbhdcbaaGreat
open Go.RowKit Go.Maps

set_option maxHeartbeats 1000000 in
theorem indexT_any (l : List Nm) (A : Option Addr) (m c : Nat) (w : World) (hm : m = l.length) (hml : m ≤ 1099511627776) (hr : Reads w w.heap.size 1 A m (l.map strV)) :
    Calls Tryz.prog 93 #[.slice A m c, .string ⟨#[116]⟩] w fun e w' => (∃ i : Int, e = .returned (.int .i64 i) ∧ ((decide (0 ≤ i)) = l.contains [116])) ∧ w = w' := by
  have HR := Lib.hid hr
  have HM := Lib.hid hm
  clear hr hm
  go_enter Tryz.func93, Tryz.ntmps93
  go_wp2
  go_loopw [8] (fun s wr => ∃ j : Nat, j ≤ m ∧ s = .int .i64 j ∧ Hid ((l.take j).contains [116] = false) ∧ wr = w) (fun s _ => m - (intOf s).toNat)
  case atStart => exact ⟨0, Nat.zero_le _, rfl, Lib.hid rfl, rfl⟩
  case round =>
    obtain ⟨j, hj, rfl, hno, rfl⟩ := hrel
    by_cases hlt : j < m
    · obtain ⟨s, hs⟩ : ∃ s, l[j]? = some s := ⟨_, List.getElem?_eq_getElem (by rw [← HM.out]; exact hlt)⟩
      obtain ⟨ad, u, rfl, _, hu, hcu⟩ := HR.out.at_ (k := j) hlt
      have hus : u = strV s := by rw [List.getElem?_map, hs] at hu; exact (Option.some.inj hu).symm
      subst hus
      simp only [strV] at hcu
      have HCT := Lib.hid (contains_take l j hs)
      by_cases h1 : s = [116]
      · have HC : Hid (l.contains [116] = true) := Lib.hid (by rw [List.contains_iff_mem, ← h1]; exact List.mem_of_getElem? hs)
        subst h1
        clear hs hu
        go_wp2
        go_ret
        exact ⟨⟨_, rfl, by rw [HC.out]; exact decide_eq_true (by omega)⟩, by first | trivial | rfl⟩
      · have h2 : (s == [116]) = false := by simpa using h1
        have h3 : ([116] == s) = false := by rw [beq_eq_false_iff_ne]; exact fun e => h1 e.symm
        have HNX : Hid ((l.take (j + 1)).contains [116] = false) := Lib.hid (by rw [HCT.out, hno.out, h2]; rfl)
        clear hs hu h1
        go_wp2
        go_roundw
        case rel => exact ⟨j + 1, by omega, by go_num, HNX, by first | trivial | rfl⟩
        case measure => simp [intOf]; omega
    · have hjm : j = m := by omega
      subst hjm
      have HC : Hid (l.contains [116] = false) := Lib.hid (by have := hno.out; rw [List.take_of_length_le (by rw [← HM.out]; exact Nat.le_refl _)] at this; exact this)
      go_wp2
      go_ret
      exact ⟨⟨-1, rfl, by rw [HC.out]; rfl⟩, by first | trivial | rfl⟩
theorem containsT_any (l : List Nm) (A : Option Addr) (m c : Nat) (w : World) (hm : m = l.length) (hml : m ≤ 1099511627776) (hr : Reads w w.heap.size 1 A m (l.map strV)) :
    Calls Tryz.prog 51 #[.slice A m c, .string ⟨#[116]⟩] w fun e w' => e = .returned (.bool (l.contains [116])) ∧ w = w' := by
  have HI := Lib.hid (indexT_any l A m c w hm hml hr)
  clear hm hml hr
  go_enter Tryz.func51, Tryz.ntmps51
  go_wp2_with (go_at_call 93; refine HI.out.mono ?_; rintro e w' ⟨⟨i, rfl, hi⟩, rfl⟩; have HII := Lib.hid hi; clear hi)
  go_ret
  exact ⟨by rw [← HII.out]; rfl, rfl⟩
theorem wd_then {w w1 w2 : World} {q p : Nat} {X : Wnd} {S : Drv} {F : Nat → Prop} (ht1 : Touch F w w1) (h : WD w2 q p X S (grow (grow F w w1) w1 w2)) (ht : Touch (grow F w w1) w1 w2) : WD w2 q p X S (grow F w w2) ∧ Touch F w w2 := by
  have h1 := ht1.size
  have h3 := ht.size
  refine ⟨WD.mono h fun k hk => ?_, ht1.trans ht⟩
  rcases hk with (hk | hk) | hk
  · exact .inl hk
  · exact .inr (by omega)
  · exact .inr (by omega)
set_option maxRecDepth 100000 in
set_option maxHeartbeats 4000000 in
theorem asweep_any (q p : Nat) (X : Wnd) (S : Drv) (F : Nat → Prop) (w : World) (k N r : Nat) (hd : WD w q p X S F) (hK : KeptM X S k N r) (hk2 : k + 3 ≤ 1152921504606846976) (hN2 : N + 3 ≤ 1073741824) :
    Calls Tryz.prog 21 #[.iface 40 (.pointer (some ⟨q, 0, none⟩))] w fun e w' => e = .returned (.tuple #[.int .i64 (asweep X S).2.2.1, .int .i64 (asweep X S).2.2.2]) ∧ WD w' q p (asweep X S).1 (asweep X S).2.1 (grow F w w') ∧ Touch F w w' := by
  have hm0 : ∀ W : World, (method 332 40 (.pointer (some ⟨q, 0, none⟩)) "List").run Tryz.prog W = .ok (164, .pointer (some ⟨q, 0, none⟩)) W := fun _ => by kernel_rfl
  have hm1 : ∀ W : World, (method 332 40 (.pointer (some ⟨q, 0, none⟩)) "Remove").run Tryz.prog W = .ok (165, .pointer (some ⟨q, 0, none⟩)) W := fun _ => by kernel_rfl
  have hm2 : ∀ W : World, (method 332 40 (.pointer (some ⟨q, 0, none⟩)) "SyncDir").run Tryz.prog W = .ok (168, .pointer (some ⟨q, 0, none⟩)) W := fun _ => by kernel_rfl
  have hX := hK.k.wnd.ok (show k ≤ 1152921504606846976 by omega)
  obtain ⟨X1, l, x1, hy1⟩ : ∃ Y T x, wread X (dnames S.now, (0 : Int)) = (Y, T, x) := ⟨_, _, _, rfl⟩
  have hll : l.length ≤ 1073741824 := by
    have h1 : l = dnames S.now ∨ l = [] := by
      unfold wread at hy1
      split at hy1
      · injection hy1 with _ h; injection h with h _; exact .inl h.symm
      · injection hy1 with _ h; injection h with h _; exact .inr h.symm
    rcases h1 with h1 | h1
    · rw [h1, dnames_length]; have := hK.k.drv.snow; have := hK.k.drv.rooms; omega
    · rw [h1]; simp
  have hK1 : KeptM X1 S (k + 1) (N + 1) r := by
    have := wread_keptM hK (dnames S.now, (0 : Int)) (by omega)
    rw [hy1] at this; exact this
  have hX1 := hK1.k.wnd.ok (show k + 1 ≤ 1152921504606846976 by omega)
  have hC := wlist_any q p X S F w (by have := hK.k.drv.snow; have := hK.k.drv.rooms; omega) hd hX (hK.k.drv.small (by omega))
  rw [hy1] at hC
  simp only at hC
  have HC := Lib.hid hC
  have HK1 := Lib.hid hK1
  have HX1 := Lib.hid hX1
  obtain ⟨m, hm⟩ : ∃ m, m = l.length := ⟨_, rfl⟩
  rw [← hm] at HC hll
  have HM := Lib.hid hm
  have HY1 := Lib.hid hy1
  by_cases h0 : x1 ≠ 0
  · have HR : Hid (asweep X S = (X1, S, 0, x1)) := Lib.hid (by unfold asweep; rw [hy1]; exact if_pos h0)
    rw [HR.out]
    simp only
    have hb1 : (x1 != 0) = true := by simpa using h0
    clear hd hK hC hK1 hX1 hX h0 hy1 hm
    go_enter Tryz.func21, Tryz.ntmps21
    go_wp2_with (go_at_call 164; refine HC.out.mono ?_; rintro e w1 ⟨v, rfl, ho, hd1', ht1⟩; have hd1 : WD w1 q p X1 S (grow F w w1) := (WD.mono hd1' fun k hk => .inl hk); have HO := Lib.hid ho; have HD1 := Lib.hid hd1; have HT1 := Lib.hid ht1; clear ho hd1 hd1' ht1)
    go_ret2
    exact ⟨rfl, HD1.out, HT1.out⟩
  · have h0' : x1 = 0 := by omega
    subst h0'
    have hR : asweep X S = if l.contains [116] = true then (if (wcall X1 S false (S.remove [116])).2.2 ≠ 0 then ((wcall X1 S false (S.remove [116])).1, (wcall X1 S false (S.remove [116])).2.1, 0, (wcall X1 S false (S.remove [116])).2.2) else asweepEnd (wcall X1 S false (S.remove [116])).1 (wcall X1 S false (S.remove [116])).2.1 1) else asweepEnd X1 S 0 := by
      unfold asweep; rw [hy1]; exact if_neg h0
    obtain ⟨XA, SA, nA, xA, hA⟩ : ∃ a b c d, asweep X S = (a, b, c, d) := ⟨_, _, _, _, rfl⟩
    rw [hA] at hR ⊢
    simp only
    have HR := Lib.hid hR
    obtain ⟨X2, S2, x2, hy2⟩ : ∃ Y T x, wcall X1 S false (S.remove [116]) = (Y, T, x) := ⟨_, _, _, rfl⟩
    have hK2 : KeptM X2 S2 (k + 2) (N + 2) r := by
      have := wcall_keptM hK1 false (S.remove [116]) (Drv.remove_inv hK1.k.drv _ (by omega)) (Drv.remove_keepsRoom _ _) ((Drv.remove_refs hK1.m _).mono (by omega)) (by omega)
      rw [hy2] at this; exact this
    have HK2 := Lib.hid hK2
    have HX2 := Lib.hid (hK2.k.wnd.ok (show k + 2 ≤ 1152921504606846976 by omega))
    have HY2 := Lib.hid hy2
    clear hd hK hC hK1 hX1 hX h0 hy1 hm hR hK2 hy2 hA
    cases hc : l.contains [116] with
    | false =>
      have HCC := Lib.hid hc
      have hR2 : (XA, SA, nA, xA) = asweepEnd X1 S 0 := by rw [HR.out, hc]; rfl
      obtain ⟨X3, S3, x3, hy3⟩ : ∃ Y T x, wcall X1 S false (S.syncDir, 0) = (Y, T, x) := ⟨_, _, _, rfl⟩
      have HY3 := Lib.hid hy3
      unfold asweepEnd at hR2
      rw [hy3] at hR2
      simp only at hR2
      clear hc hy3
      by_cases h3 : x3 = 0
      · subst h3
        simp only [if_true, Prod.mk.injEq] at hR2
        obtain ⟨rfl, rfl, rfl, rfl⟩ := hR2
        go_enter Tryz.func21, Tryz.ntmps21
        go_wp2_with (first
          | (go_at_call 164; refine HC.out.mono ?_; rintro e w1 ⟨v, rfl, ho, hd1', ht1⟩; have hd1 : WD w1 q p X1 S (grow F w w1) := (WD.mono hd1' fun k hk => .inl hk); obtain ⟨al, cl, rfl, _⟩ := own_shape ho; have HO := Lib.hid ho; have HD1 := Lib.hid hd1; have HT1 := Lib.hid ht1; clear ho hd1 hd1' ht1)
          | (go_at_call 51; refine (containsT_any l al m cl _ HM.out (by omega) (Reads.of_own HO.out)).mono ?_; rintro e w' ⟨rfl, rfl⟩; rw [HCC.out])
          | (go_at_call 168; have j := wsyncDir_any q p X1 S _ _ HD1.out HX1.out (HK1.out.k.drv.small (by omega)); rw [HY3.out] at j; refine j.mono ?_; clear j; rintro e w2 ⟨rfl, hd1, ht1⟩; have hde := wd_then HT1.out hd1 ht1; have HD2 := Lib.hid hde.1; have HT2 := Lib.hid hde.2; clear hd1 ht1 hde)
          | fail)
        go_ret2
        exact ⟨rfl, HD2.out, HT2.out⟩
      · rw [if_neg h3] at hR2
        have h4 : (x3 != 0) = true := by simpa using h3
        simp only [Prod.mk.injEq] at hR2
        obtain ⟨rfl, rfl, rfl, rfl⟩ := hR2
        clear h3
        go_enter Tryz.func21, Tryz.ntmps21
        go_wp2_with (first
          | (go_at_call 164; refine HC.out.mono ?_; rintro e w1 ⟨v, rfl, ho, hd1', ht1⟩; have hd1 : WD w1 q p X1 S (grow F w w1) := (WD.mono hd1' fun k hk => .inl hk); obtain ⟨al, cl, rfl, _⟩ := own_shape ho; have HO := Lib.hid ho; have HD1 := Lib.hid hd1; have HT1 := Lib.hid ht1; clear ho hd1 hd1' ht1)
          | (go_at_call 51; refine (containsT_any l al m cl _ HM.out (by omega) (Reads.of_own HO.out)).mono ?_; rintro e w' ⟨rfl, rfl⟩; rw [HCC.out])
          | (go_at_call 168; have j := wsyncDir_any q p X1 S _ _ HD1.out HX1.out (HK1.out.k.drv.small (by omega)); rw [HY3.out] at j; refine j.mono ?_; clear j; rintro e w2 ⟨rfl, hd1, ht1⟩; have hde := wd_then HT1.out hd1 ht1; have HD2 := Lib.hid hde.1; have HT2 := Lib.hid hde.2; clear hd1 ht1 hde)
          | fail)
        go_ret2
        exact ⟨rfl, HD2.out, HT2.out⟩
    | true =>
      have HCC := Lib.hid hc
      have hR2 : (XA, SA, nA, xA) = if x2 ≠ 0 then (X2, S2, 0, x2) else asweepEnd X2 S2 1 := by rw [HR.out, hc, HY2.out]; rfl
      clear hc
      by_cases h2 : x2 = 0
      · subst h2
        rw [if_neg (by simp)] at hR2
        obtain ⟨X3, S3, x3, hy3⟩ : ∃ Y T x, wcall X2 S2 false (S2.syncDir, 0) = (Y, T, x) := ⟨_, _, _, rfl⟩
        have HY3 := Lib.hid hy3
        unfold asweepEnd at hR2
        rw [hy3] at hR2
        simp only at hR2
        clear hy3
        by_cases h3 : x3 = 0
        · subst h3
          simp only [if_true, Prod.mk.injEq] at hR2
          obtain ⟨rfl, rfl, rfl, rfl⟩ := hR2
          go_enter Tryz.func21, Tryz.ntmps21
          go_wp2_with (first
            | (go_at_call 164; refine HC.out.mono ?_; rintro e w1 ⟨v, rfl, ho, hd1', ht1⟩; have hd1 : WD w1 q p X1 S (grow F w w1) := (WD.mono hd1' fun k hk => .inl hk); obtain ⟨al, cl, rfl, _⟩ := own_shape ho; have HO := Lib.hid ho; have HD1 := Lib.hid hd1; have HT1 := Lib.hid ht1; clear ho hd1 hd1' ht1)
            | (go_at_call 51; refine (containsT_any l al m cl _ HM.out (by omega) (Reads.of_own HO.out)).mono ?_; rintro e w' ⟨rfl, rfl⟩; rw [HCC.out])
            | (go_at_call 165; have j := wremove_any q p X1 S _ bT _ (by decide) HD1.out HX1.out (HK1.out.k.drv.small (by omega)); rw [show wcall X1 S false (S.remove bT.data.toList) = (_, _, _) from HY2.out] at j; refine j.mono ?_; clear j; rintro e w2 ⟨rfl, hd1, ht1⟩; have hde := wd_then HT1.out hd1 ht1; have HD2 := Lib.hid hde.1; have HT2 := Lib.hid hde.2; clear hd1 ht1 hde)
            | (go_at_call 168; have j := wsyncDir_any q p X2 S2 _ _ HD2.out HX2.out (HK2.out.k.drv.small (by omega)); rw [HY3.out] at j; refine j.mono ?_; clear j; rintro e w3 ⟨rfl, hd1, ht1⟩; have hde := wd_then HT2.out hd1 ht1; have HD3 := Lib.hid hde.1; have HT3 := Lib.hid hde.2; clear hd1 ht1 hde)
            | fail)
          go_ret2
          exact ⟨rfl, HD3.out, HT3.out⟩
        · rw [if_neg h3] at hR2
          have h4 : (x3 != 0) = true := by simpa using h3
          simp only [Prod.mk.injEq] at hR2
          obtain ⟨rfl, rfl, rfl, rfl⟩ := hR2
          clear h3
          go_enter Tryz.func21, Tryz.ntmps21
          go_wp2_with (first
            | (go_at_call 164; refine HC.out.mono ?_; rintro e w1 ⟨v, rfl, ho, hd1', ht1⟩; have hd1 : WD w1 q p X1 S (grow F w w1) := (WD.mono hd1' fun k hk => .inl hk); obtain ⟨al, cl, rfl, _⟩ := own_shape ho; have HO := Lib.hid ho; have HD1 := Lib.hid hd1; have HT1 := Lib.hid ht1; clear ho hd1 hd1' ht1)
            | (go_at_call 51; refine (containsT_any l al m cl _ HM.out (by omega) (Reads.of_own HO.out)).mono ?_; rintro e w' ⟨rfl, rfl⟩; rw [HCC.out])
            | (go_at_call 165; have j := wremove_any q p X1 S _ bT _ (by decide) HD1.out HX1.out (HK1.out.k.drv.small (by omega)); rw [show wcall X1 S false (S.remove bT.data.toList) = (_, _, _) from HY2.out] at j; refine j.mono ?_; clear j; rintro e w2 ⟨rfl, hd1, ht1⟩; have hde := wd_then HT1.out hd1 ht1; have HD2 := Lib.hid hde.1; have HT2 := Lib.hid hde.2; clear hd1 ht1 hde)
            | (go_at_call 168; have j := wsyncDir_any q p X2 S2 _ _ HD2.out HX2.out (HK2.out.k.drv.small (by omega)); rw [HY3.out] at j; refine j.mono ?_; clear j; rintro e w3 ⟨rfl, hd1, ht1⟩; have hde := wd_then HT2.out hd1 ht1; have HD3 := Lib.hid hde.1; have HT3 := Lib.hid hde.2; clear hd1 ht1 hde)
            | fail)
          go_ret2
          exact ⟨rfl, HD3.out, HT3.out⟩
      · rw [if_pos h2] at hR2
        have h4 : (x2 != 0) = true := by simpa using h2
        simp only [Prod.mk.injEq] at hR2
        obtain ⟨rfl, rfl, rfl, rfl⟩ := hR2
        clear h2
        go_enter Tryz.func21, Tryz.ntmps21
        go_wp2_with (first
          | (go_at_call 164; refine HC.out.mono ?_; rintro e w1 ⟨v, rfl, ho, hd1', ht1⟩; have hd1 : WD w1 q p X1 S (grow F w w1) := (WD.mono hd1' fun k hk => .inl hk); obtain ⟨al, cl, rfl, _⟩ := own_shape ho; have HO := Lib.hid ho; have HD1 := Lib.hid hd1; have HT1 := Lib.hid ht1; clear ho hd1 hd1' ht1)
          | (go_at_call 51; refine (containsT_any l al m cl _ HM.out (by omega) (Reads.of_own HO.out)).mono ?_; rintro e w' ⟨rfl, rfl⟩; rw [HCC.out])
          | (go_at_call 165; have j := wremove_any q p X1 S _ bT _ (by decide) HD1.out HX1.out (HK1.out.k.drv.small (by omega)); rw [show wcall X1 S false (S.remove bT.data.toList) = (_, _, _) from HY2.out] at j; refine j.mono ?_; clear j; rintro e w2 ⟨rfl, hd1, ht1⟩; have hde := wd_then HT1.out hd1 ht1; have HD2 := Lib.hid hde.1; have HT2 := Lib.hid hde.2; clear hd1 ht1 hde)
          | fail)
        go_ret2
        exact ⟨rfl, HD2.out, HT2.out⟩
end Go.Proofs.YtdmcjomcbhdcbaaGreat
namespace Go.Proofs.YtdmcjomcbhdcbaaGreat
open Go.RowKit Go.Maps

def mkB (i : Nat) : UInt8 := UInt8.ofNat (201 + i % 7)
def marks (k : Nat) : List UInt8 := (List.range k).map mkB
theorem marks_succ (k : Nat) : marks (k + 1) = marks k ++ [mkB k] := by unfold marks; rw [List.range_succ, List.map_append]; rfl
theorem marks_length (k : Nat) : (marks k).length = k := by unfold marks; simp
theorem mkB_val (i : Nat) : ((mkB i).toNat : Int) = 201 + (i : Int) % 7 := by
  unfold mkB
  rw [UInt8.toNat_ofNat']
  omega

set_option maxRecDepth 100000 in
set_option maxHeartbeats 4000000 in
theorem lent_any (A : Option Addr) (n c0 : Nat) (bs : List UInt8) (w : World) (hn : n = bs.length) (hnl : n ≤ 1099511627776) (hr : Reads w w.heap.size 1 A n (bs.map B8)) :
    Calls Tryz.prog 47 #[.slice A n c0] w fun e w' => ∃ a c, e = .returned (.slice a n c) ∧ n + 64 ≤ c ∧ w'.ownsRow w.heap.size 5 1 (.slice a (n + 64) c) (n + 64) ((bs ++ marks 64).map B8) ∧ Below w.heap.size w w' := by
  obtain ⟨iB, hiB, hz0, hz1, hz2⟩ := info_parts byteInfo
  have HONE : Hid (∀ u ∈ bs.map B8, u.oneCell' = true) := Lib.hid (by intro u hu; simp only [List.mem_map] at hu; obtain ⟨b, _, rfl⟩ := hu; rfl)
  have HM63 : Hid (0 + n ≤ maxLen) := Lib.hid (by simp only [maxLen]; omega)
  have HM40 : Hid ((0 + n) * 1 ≤ 140737488355328) := Lib.hid (by omega)
  have HR := Lib.hid hr
  have HN := Lib.hid hn
  clear hr hn
  go_enter Tryz.func47, Tryz.ntmps47
  go_wp2_with (at_builtin; refine wpList_append_any _ rfl (.tmp 5) (.tmp 6) 26 rfl w.heap.size 5 iB _ 1 1 Tryz.underlying26 hiB hz0 hz1 hz2 rfl (by omega) (.slice none 0 0) 0 [] (by rfl) (World.ownsRow_nil _ _ _ _) w.heap.size A n c0 (bs.map B8) (by rfl) HR.out HONE.out HM63.out HM40.out (Nat.le_refl _) ?_; intro v1 w1 hown1 hg1 hat1; rw [Nat.zero_add, List.nil_append] at hown1; obtain ⟨a1, c1, rfl, _⟩ := own_shape hown1; have HO := Lib.hid hown1; have HB : Hid (Below w.heap.size w w1) := Lib.hid ((Below.refl _ w).grown hg1 (Nat.le_refl _) (fun q hq => (by simp [Value.ownBlock] at hq))); clear hown1 hg1 hat1)
  go_loopw [3, 4] (fun s3 s4 wr => ∃ j : Nat, j ≤ 64 ∧ s4 = .int .i64 j ∧ wr.ownsRow w.heap.size 5 1 s3 (n + j) ((bs ++ marks j).map B8) ∧ Below w.heap.size w wr) (fun _ s _ => 64 - (intOf s).toNat)
  case atStart => exact ⟨0, by omega, rfl, by rw [show bs ++ marks 0 = bs by unfold marks; simp]; exact HO.out, HB.out⟩
  case round =>
    obtain ⟨j, hj, rfl, hown, hbel⟩ := hrel
    have hsz : w.heap.size ≤ wr.heap.size := hbel.size
    obtain ⟨a2, c2, rfl, hc2⟩ := own_shape hown
    have HO2 := Lib.hid hown
    have HB2 := Lib.hid hbel
    by_cases hlt : j < 64
    · have HN63 : Hid (n + j + 1 ≤ maxLen) := Lib.hid (by simp only [maxLen]; omega)
      have HN40 : Hid ((n + j + 1) * 1 ≤ 140737488355328) := Lib.hid (by omega)
      have HMK : Hid (Value.int .u8 (201 + (j : Int) % 7) = B8 (mkB j)) := Lib.hid (by unfold B8; rw [mkB_val])
      clear hown hbel
      go_wp2_with (at_builtin; refine wpList_append_any _ rfl (.tmp 12) (.tmp 17) 26 rfl w.heap.size 5 iB _ 1 1 Tryz.underlying26 hiB hz0 hz1 hz2 rfl (by omega) (.slice a2 (n + j) c2) (n + j) _ (by rfl) (HO2.out.alloc _) (wr.heap.size + 1) (some ⟨wr.heap.size, 0, none⟩) 1 1 [.int .u8 (201 + (j : Int) % 7)] (by rfl) (by exact reads_blk (t := 5) (blk_last _ _ _ _ rfl) (by omega) rfl) (by intro u hu; simp at hu; subst hu; rfl) HN63.out HN40.out (by simp; omega) ?_; intro v3 w3 hown3 hg3 hat3; obtain ⟨a3, c3, rfl, _⟩ := own_shape hown3; have HO3 := Lib.hid hown3; have HG3 : Hid ((wr.alloc (.cells #[.int .u8 (201 + (j : Int) % 7)] 5)).grownBy w3 (Value.slice a2 (n + j) c2).ownBlock) := Lib.hid hg3; clear hown3 hg3 hat3)
      go_roundw
      case rel =>
        refine ⟨j + 1, by omega, by go_num, ?_, (HB2.out.alloc hsz _).grown HG3.out (by rw [alloc_size]; omega) (fun q hq => (HO2.out.lt q hq).1)⟩
        have e : (bs ++ marks (j + 1)).map B8 = (bs ++ marks j).map B8 ++ [B8 (mkB j)] := by rw [marks_succ, ← List.append_assoc, List.map_append]; rfl
        rw [e, ← HMK.out]
        exact HO3.out
      case measure => simp [intOf]; omega
    · have hj64 : j = 64 := by omega
      subst hj64
      have hs0 : (0 : Int) ≤ (n : Int) := by omega
      have hs1 : (n : Int) ≤ (c2 : Int) := by omega
      clear hown hbel
      go_wp2
      go_ret
      exact ⟨_, _, rfl, hc2, HO2.out, HB2.out⟩

/-- What was lent is as it was. -/
structure Lent (w : World) (base : Nat) (a : Option Addr) (n c : Nat) (bs : List UInt8) : Prop where
  len : n = bs.length
  cap : n + 64 ≤ c
  row : w.ownsRow base 5 1 (.slice a (n + 64) c) (n + 64) ((bs ++ marks 64).map B8)

set_option maxRecDepth 100000 in
set_option maxHeartbeats 4000000 in
theorem unmarked_any (a : Option Addr) (n c : Nat) (A : Option Addr) (c0 : Nat) (bs : List UInt8) (base : Nat) (w : World) (hL : Lent w base a n c bs) (hnl : n ≤ 1099511627776) (hr : Reads w w.heap.size 1 A n (bs.map B8)) :
    Calls Tryz.prog 48 #[.slice a n c, .slice A n c0] w fun e w' => e = .returned (.bool true) ∧ Below w.heap.size w w' := by
  have hrl : Reads w w.heap.size 1 a n (bs.map B8) := by
    have h0 := Reads.of_own hL.row
    refine ⟨by simp [hL.len], fun hp => ?_⟩
    obtain ⟨ad, e, hb, hc⟩ := h0.2 (by omega)
    refine ⟨ad, e, hb, fun j u hu => hc j u ?_⟩
    have hj : j < (bs.map B8).length := by
      rcases Nat.lt_or_ge j (bs.map B8).length with h | h
      · exact h
      · rw [List.getElem?_eq_none h] at hu; cases hu
    rw [List.map_append, List.getElem?_append_left hj]
    exact hu
  obtain ⟨bb, hbb⟩ : ∃ x : ByteArray, x = ⟨bs.toArray⟩ := ⟨_, rfl⟩
  have hvb : ∀ m, (convert 26 9 (.slice A n c0)).run Tryz.prog (w.drewN m) = .ok (.string bb) (w.drewN m) := fun m => by rw [hL.len, hbb]; exact conv_any _ w.heap.size A bs c0 (by rw [← hL.len]; exact hr.drewN m)
  have hva : ∀ m, (convert 26 9 (.slice a n c)).run Tryz.prog (w.drewN m) = .ok (.string bb) (w.drewN m) := fun m => by rw [hL.len, hbb]; exact conv_any _ w.heap.size a bs c (by rw [← hL.len]; exact hrl.drewN m)
  have hs0 : (0 : Int) ≤ (n : Int) + 64 := by omega
  have hs1 : (n : Int) + 64 ≤ (c : Int) := by have := hL.cap; omega
  have b1 : (bb.toList != bb.toList) = false := by simp
  have hva0 := hva 0
  have hvb0 := hvb 0
  simp only [World.drewN_zero] at hva0 hvb0
  have HL := Lib.hid hL
  clear hL hr hrl hbb
  go_enter Tryz.func48, Tryz.ntmps48
  go_wp2
  go_loopw [6] (fun s wr => ∃ j : Nat, j ≤ 64 ∧ s = .int .i64 ((n : Int) + j) ∧ ∃ m, wr = w.drewN m) (fun s _ => 64 - (intOf s - n).toNat)
  case atStart => exact ⟨0, by omega, by simp, 0, rfl⟩
  case round =>
    obtain ⟨j, hj, rfl, m, hm⟩ := hrel
    have HM := Lib.hid hm
    by_cases hlt : j < 64
    · obtain ⟨ad, had, hcell⟩ : ∃ ad, a = some ad ∧ wr.cell? (ad.add (n + j)) = some (.int .u8 (201 + (j : Int) % 7)) := by
        obtain ⟨ad, e, hb, hc⟩ := (Reads.of_own HL.out.row).2 (by omega)
        refine ⟨ad, e, ?_⟩
        rw [hm, show (w.drewN m).cell? (ad.add (n + j)) = w.cell? (ad.add (n + j)) from rfl]
        refine hc _ _ ?_
        rw [HL.out.len, List.map_append, List.getElem?_append_right (by simp), List.length_map, Nat.add_sub_cancel_left]
        unfold marks
        rw [List.getElem?_map, List.getElem?_map, List.getElem?_range hlt]
        simp only [Option.map_some, B8, mkB_val]
      subst had
      have hl : (n : Int) + j < n + 64 := by omega
      have e0 : (n : Int) + j - n = j := by omega
      clear hm
      go_wp2
      exact ⟨⟨j + 1, by omega, by go_num, m, HM.out⟩, by simp only [intOf]; omega⟩
    · have hj64 : j = 64 := by omega
      subst hj64
      clear hm
      go_wp2
      go_ret
      exact ⟨rfl, by rw [HM.out]; exact below_drewN (Below.refl _ _) _⟩
end Go.Proofs.YtdmcjomcbhdcbaaGreat
namespace Go.Proofs.YtdmcjomcbhdcbaaGreat
open Go.RowKit Go.Maps

theorem fr_avoid1 {h b : Nat} {Av : Nat → Prop} (hA : b < h ∨ Av b) : ¬fr h Av b := fun hf => by
  rcases hA with h1 | h1
  · have := hf.1; omega
  · exact hf.2 h1
/-- A writing, in a world of one drive. -/
theorem write1 {w : World} {h dg wg mg q p mq mp : Nat} {Av : Nat → Prop} {X Y : Wnd} {S T : Drv} (hT : World1 w h Av dg wg mg q p mq mp X S Y T) (hh : h ≤ w.heap.size) {k N r : Nat} (hK : KeptM X S k N r) (hk5 : k + 5 ≤ 1152921504606846976) (hN5 : N + 5 ≤ 1073741824)
    (nm : Nm) (hnm : nm.length ≤ maxLen) (A : Option Addr) (n c0 : Nat) (bs : List UInt8) (hn : n = bs.length) (hnl : n ≤ 1099511627776) (hnc : n ≤ c0) (hr : Reads w w.heap.size 1 A n (bs.map B8)) (hA : ∀ ad, A = some ad → ad.block < h ∨ Av ad.block) (hAl : ∀ ad, A = some ad → ad.block < w.heap.size)
    (X' : Wnd) (S' : Drv) (x : Int) (hy : turnW X S nm bs = (X', S', x)) :
    Calls Tryz.prog 10 #[.iface 40 (.pointer (some ⟨q, 0, none⟩)), .string ⟨nm.toArray⟩, .slice A n c0] w fun e w' => e = .returned (.int .i64 x) ∧ World1 w' h Av dg wg mg q p mq mp X' S' Y T ∧ Touch (fr h Av) w w' := by
  refine hT.on_wound hh fun F hd h1 h2 => ?_
  have hno : ∀ ad, A = some ad → ¬F ad.block := fun ad e hf => by
    rcases hA ad e with h3 | h3
    · have := h1 _ hf; omega
    · exact h2 _ h3 hf
  exact (write_turn q p X S F nm A c0 n bs w k N r hn hd (fun k hk => (h1 k hk).2) hnm (fun W ht => (hr.touch ht (Nat.le_refl _) hno).more ht.size) (fun ad e => ⟨hAl ad e, hno ad e⟩) hnc (by omega) hK.k hk5 hN5 X' S' x hy).mono fun e w' ⟨he, a, b⟩ => ⟨_, _, a, b, fun k1 k2 => ⟨he, k1, k2⟩⟩

section
variable {w w1 w2 : World} {a : Option Addr} {n c h : Nat} {bs : List UInt8} {Av : Nat → Prop}
theorem lent_reads (hn : n = bs.length) (ho : w1.ownsRow w.heap.size 5 1 (.slice a (n + 64) c) (n + 64) ((bs ++ marks 64).map B8)) : Reads w1 w1.heap.size 1 a n (bs.map B8) := by
  have h0 := Reads.of_own ho
  refine ⟨by simp [hn], fun hp => ?_⟩
  obtain ⟨ad, e, hb, hc⟩ := h0.2 (by omega)
  refine ⟨ad, e, hb, fun j u hu => hc j u ?_⟩
  have hj : j < (bs.map B8).length := by
    rcases Nat.lt_or_ge j (bs.map B8).length with h | h
    · exact h
    · rw [List.getElem?_eq_none h] at hu; cases hu
  rw [List.map_append, List.getElem?_append_left hj]
  exact hu
theorem lent_in (ho : w1.ownsRow w.heap.size 5 1 (.slice a (n + 64) c) (n + 64) ((bs ++ marks 64).map B8)) {ad : Addr} (e : a = some ad) : w.heap.size ≤ ad.block ∧ ad.block < w1.heap.size := by
  subst e
  exact ho.lt _ rfl
theorem lent_keep (ho : w1.ownsRow w.heap.size 5 1 (.slice a (n + 64) c) (n + 64) ((bs ++ marks 64).map B8)) (ht : Touch (fr h (fun k => Av k ∨ (w.heap.size ≤ k ∧ k < w1.heap.size))) w1 w2) :
    w2.ownsRow w.heap.size 5 1 (.slice a (n + 64) c) (n + 64) ((bs ++ marks 64).map B8) :=
  ownsRow_keep ho fun k e => ht.block k (ho.lt k e).2 fun hf => hf.2 (.inr (ho.lt k e))
end

set_option maxRecDepth 100000 in
set_option maxHeartbeats 4000000 in
theorem lwrite_any (w : World) (h dg wg mg q p mq mp : Nat) (Av : Nat → Prop) (X Y : Wnd) (S T : Drv) (hT : World1 w h Av dg wg mg q p mq mp X S Y T) (hh : h ≤ w.heap.size) (k N r : Nat) (hK : KeptM X S k N r) (hk5 : k + 5 ≤ 1152921504606846976) (hN5 : N + 5 ≤ 1073741824)
    (nm : Nm) (hnm : nm.length ≤ maxLen) (A : Option Addr) (n c0 : Nat) (bs : List UInt8) (hn : n = bs.length) (hnl : n ≤ 1099511627776) (hr : Reads w w.heap.size 1 A n (bs.map B8)) (hA : ∀ ad, A = some ad → 0 < n → ad.block < h ∨ Av ad.block)
    (X' : Wnd) (S' : Drv) (x : Int) (hy : turnW X S nm bs = (X', S', x)) :
    Calls Tryz.prog 18 #[.iface 40 (.pointer (some ⟨q, 0, none⟩)), .string ⟨nm.toArray⟩, .slice A n c0] w fun e w' => e = .returned (.tuple #[.int .i64 x, .bool true]) ∧ World1 w' h Av dg wg mg q p mq mp X' S' Y T ∧ Touch (fr h Av) w w' := by
  have HLENT := Lib.hid (lent_any A n c0 bs w hn hnl hr)
  have HT := Lib.hid hT
  have HR := Lib.hid hr
  have HN := Lib.hid hn
  have HA := Lib.hid hA
  have HXR := Lib.hid (xor_cell · 85)
  have hzero : (0 : Int) ≤ (n : Int) := by omega
  have h95 : (0 : Int) < 85 := by omega
  clear hT hr hn hA
  go_enter Tryz.func18, Tryz.ntmps18
  go_wp2_with (first
    | (go_at_call 47; (refine HLENT.out.mono ?_); rintro e w1 ⟨a, c, rfl, hc64, ho1, hb1⟩; have HO1 := Lib.hid ho1; have HB1 := Lib.hid hb1; clear ho1 hb1)
    | (go_at_call 10; (refine (write1 (HT.out.boxed HB1.out) (by have := HB1.out.size; omega) hK hk5 hN5 nm hnm a n c bs HN.out hnl (by omega) (lent_reads HN.out HO1.out) (fun ad e => .inr (.inr (lent_in HO1.out e))) (fun ad e => (lent_in HO1.out e).2) X' S' x hy).mono ?_); rintro e w2 ⟨rfl, hT2, ht2⟩; have HT2 := Lib.hid hT2; have HT12 := Lib.hid ht2; clear hT2 ht2)
    | (go_at_call 48; (refine (unmarked_any a n c A c0 bs w.heap.size w2 ⟨HN.out, hc64, lent_keep HO1.out HT12.out⟩ hnl (((HR.out.below HB1.out).touch0 HT12.out HB1.out.size (fun ad e h0 => fr_avoid1 (by rcases HA.out ad e h0 with h1 | h1; exact .inl h1; exact .inr (.inl h1)))).more (by have h1 := HB1.out.size; have h2 := HT12.out.size; omega))).mono ?_); rintro e w3 ⟨rfl, hb3⟩; have HB3 := Lib.hid hb3; clear hb3)
    | fail)
  go_loopw [10] (fun s wr => ∃ j : Nat, j ≤ n ∧ s = .int .i64 j ∧ ∃ xs : List UInt8, xs.length = n + 64 ∧ wr.ownsRow w.heap.size 5 1 (.slice a (n + 64) c) (n + 64) (xs.map B8) ∧ World1 wr h (fun k => Av k ∨ w.heap.size ≤ k ∧ k < w1.heap.size) dg wg mg q p mq mp X' S' Y T ∧ Touch (fr h Av) w wr) (fun s _ => n - (intOf s).toNat)
  case atStart =>
    refine ⟨0, Nat.zero_le _, rfl, bs ++ marks 64, by rw [List.length_append, marks_length, HN.out], ?_, HT2.out.below HB3.out, ?_⟩
    · exact ownsRow_below (lent_keep HO1.out HT12.out) HB3.out
    · exact ((Touch.of_below HB1.out).then_ (fr_mono HT12.out fun k hk => .inl hk)).then_ (Touch.of_below (HB3.out.mono (by have h1 := HB1.out.size; have h2 := HT12.out.size; omega)))
  case round =>
    obtain ⟨j, hj, rfl, xs, hxl, hown, hTw, htw⟩ := hrel
    by_cases hlt : j < n
    · obtain ⟨x0, hx⟩ : ∃ x, xs[j]? = some x := ⟨_, List.getElem?_eq_getElem (by omega)⟩
      obtain ⟨g2, rfl⟩ : ∃ g2, a = some ⟨g2, 0, none⟩ := by
        rcases hown.2 with ⟨_, h0⟩ | ⟨g2, _, _, e, _⟩
        · omega
        · injection e with e; exact ⟨g2, e⟩
      have hgc : wr.cell? ⟨g2, j, none⟩ = some (.int .u8 (x0.toNat : Int)) := by
        obtain ⟨ad2, u2, e2, _, hu2, hc2⟩ := (Reads.of_own hown).at_ (k := j) (by omega)
        injection e2 with e2
        subst e2
        rw [List.getElem?_map, hx] at hu2
        injection hu2 with hu2
        subst hu2
        rw [add_plain, Nat.zero_add] at hc2
        exact hc2
      have hgf : ∀ j, wr.frozen? ⟨g2, j, none⟩ = false := fun j => hown.frozenAt j
      have hg2 : g2 < wr.heap.size ∧ w.heap.size ≤ g2 ∧ g2 < w1.heap.size := by have h1 := hown.lt g2 rfl; have h2 := lent_in HO1.out rfl; simp only at h2; omega
      obtain ⟨hg2a, hg2b, hg2c⟩ := hg2
      have HNX : Hid ((wr.setCell ⟨g2, j, none⟩ (B8 (x0 ^^^ 85))).ownsRow w.heap.size 5 1 (.slice (some ⟨g2, 0, none⟩) (n + 64) c) (n + 64) ((xs.set j (x0 ^^^ 85)).map B8)) := Lib.hid (by
        have h1 := (hown.stored j (B8 (x0 ^^^ 85))).1
        rw [← List.map_set] at h1
        exact h1)
      have HXC : Hid (Value.int IntKind.u8 (bits BinOp.xor IntKind.u8 (x0.toNat : Int) 85) = B8 (x0 ^^^ 85)) := Lib.hid (HXR.out x0)
      have hav : ∀ k, k = dg ∨ k = wg ∨ k = mg → k < w.heap.size := fun k hk => by
        obtain ⟨F1, F2, _, _, _, _, _, _, _, hd, hl⟩ := HT.out; exact hl k (hd k hk)
      have HBN : Hid (World1 (wr.setCell ⟨g2, j, none⟩ (B8 (x0 ^^^ 85))) h (fun k => Av k ∨ w.heap.size ≤ k ∧ k < w1.heap.size) dg wg mg q p mq mp X' S' Y T ∧ Touch (fr h Av) w (wr.setCell ⟨g2, j, none⟩ (B8 (x0 ^^^ 85)))) := Lib.hid (by
        have ht : Touch (· = g2) wr (wr.setCell ⟨g2, j, none⟩ (B8 (x0 ^^^ 85))) := Touch.setCell _ _ _ rfl
        refine ⟨hTw.aside ht (.inr ⟨hg2b, hg2c⟩) ⟨by have := hav dg (.inl rfl); omega, by have := hav wg (.inr (.inl rfl)); omega, by have := hav mg (.inr (.inr rfl)); omega⟩, htw.then_ (ht.mono fun k _ e => ?_)⟩
        subst e
        exact ⟨by omega, fun ha => by obtain ⟨F1, F2, _, _, _, _, _, _, _, hd, hl⟩ := HT.out; have := hl _ ha; omega⟩)
      have hj0 : (0 : Int) ≤ (j : Int) := by omega
      have hj1 : (j : Int) < (n : Int) := by omega
      have hjc : (j : Int) < (c : Int) := by omega
      have HXL : Hid ((xs.set j (x0 ^^^ 85)).length = n + 64) := Lib.hid (by rw [List.length_set]; exact hxl)
      clear hown hTw htw hx hav
      go_wp2
      rw [HXC.out]
      exact ⟨⟨j + 1, by omega, by go_num, _, HXL.out, HNX.out, HBN.out.1, HBN.out.2⟩, by simp only [intOf]; omega⟩
    · have hjn : j = n := by omega
      subst hjn
      have HTF := Lib.hid (hTw.less (fun k hk => .inl hk) HT.out.avd)
      have HTT := Lib.hid htw
      clear hown hTw htw
      go_wp2
      go_ret2
      exact ⟨rfl, HTF.out, HTT.out⟩
end Go.Proofs.YtdmcjomcbhdcbaaGreat

/- atomic.Remove over a wound; what the laws ask first.; bay.Drop over a wound.; What stands behind one shard's writing on a new drive; behind its taking away. No program in sight. -/
import Derived.Test.YtcbebefdbdppdaaGreatM29
import Derived.Test.YtcbebefdbdppdaaGreatM24
namespace Go.Proofs.YtcbebefdbdppdaaGreat
open Go.RowKit Go.Maps
def aremove (X : Wnd) (S : Drv) (nm : Nm) : Wnd × Drv × Int :=
  if (wcall X S false (S.remove nm)).2.2 ≠ 0 ∧ (wcall X S false (S.remove nm)).2.2 ≠ 110 then wcall X S false (S.remove nm)
  else wcall (wcall X S false (S.remove nm)).1 (wcall X S false (S.remove nm)).2.1 false ((wcall X S false (S.remove nm)).2.1.syncDir, 0)
set_option maxRecDepth 100000 in
set_option maxHeartbeats 4000000 in
theorem aremove_any (q p : Nat) (X : Wnd) (S : Drv) (F : Nat → Prop) (nm : List UInt8) (w : World) (hd : WD w q p X S F) (hnm : nm.length ≤ maxLen) (hlk : lookE nm = 0) (hX : X.Ok) (hS : S.Small)
    (hX2 : (wcall X S false (S.remove nm)).1.Ok) (hS2 : (wcall X S false (S.remove nm)).2.1.Small) :
    Calls Tryz.prog 87 #[.iface 36 (.pointer (some ⟨q, 0, none⟩)), .string ⟨nm.toArray⟩] w fun e w' => e = .returned (.int .i64 (aremove X S nm).2.2) ∧ WD w' q p (aremove X S nm).1 (aremove X S nm).2.1 (grow F w w') ∧ Touch F w w' := by
  have hm1 : ∀ W : World, (method 437 36 (.pointer (some ⟨q, 0, none⟩)) "Remove").run Tryz.prog W = .ok (259, .pointer (some ⟨q, 0, none⟩)) W := fun _ => by kernel_rfl
  have hm2 : ∀ W : World, (method 437 36 (.pointer (some ⟨q, 0, none⟩)) "SyncDir").run Tryz.prog W = .ok (262, .pointer (some ⟨q, 0, none⟩)) W := fun _ => by kernel_rfl
  have HL : Hid (∀ W, Calls Tryz.prog 124 #[.iface 36 (.pointer (some ⟨q, 0, none⟩)), .string ⟨nm.toArray⟩] W fun e w' => e = .returned (.int .i64 0) ∧ W = w') := Lib.hid fun W => by
    have := look_any ⟨q, 0, none⟩ nm W hnm
    rw [hlk] at this
    exact this
  have hc := wremove_any q p X S F ⟨nm.toArray⟩ w (by show nm.toArray.size ≤ maxLen; simpa using hnm) hd hX hS
  rw [show (⟨nm.toArray⟩ : ByteArray).data.toList = nm by simp] at hc
  obtain ⟨Y, T, x, hy⟩ : ∃ Y T x, wcall X S false (S.remove nm) = (Y, T, x) := ⟨_, _, _, rfl⟩
  have hE : aremove X S nm = if x ≠ 0 ∧ x ≠ 110 then (Y, T, x) else wcall Y T false (T.syncDir, 0) := by unfold aremove; rw [hy]
  rw [hy] at hc hX2 hS2
  rw [hE]
  have HC := Lib.hid hc
  have HX2 := Lib.hid hX2
  have HS2 := Lib.hid hS2
  clear hd hX hS hc hE hX2 hS2 hy hlk
  by_cases hb : x ≠ 0 ∧ x ≠ 110
  · rw [if_pos hb]
    have t1 : (x == 0) = false := by rw [beq_eq_false_iff_ne]; exact hb.1
    have t2 : (x == 110) = false := by rw [beq_eq_false_iff_ne]; exact hb.2
    have t3 : (x != 0) = true := by rw [bne_iff_ne]; exact hb.1
    have t4 : (x != 110) = true := by rw [bne_iff_ne]; exact hb.2
    clear hb
    go_enter Tryz.func87, Tryz.ntmps87
    go_wp2_with (first
      | (go_at_call 124; refine (HL.out _).mono ?_; rintro e w' ⟨rfl, rfl⟩)
      | (go_at_call 259; refine HC.out.mono ?_; rintro e w1 ⟨rfl, h1, h2⟩; have H1 := Lib.hid h1; have H2 := Lib.hid h2; clear h1 h2)
      | fail)
    go_ret
    exact ⟨rfl, H1.out, H2.out⟩
  · rw [if_neg hb]
    have ht : x = 0 ∨ (x == 0) = false ∧ (x != 0) = true ∧ x = 110 := by
      by_cases h0 : x = 0
      · exact .inl h0
      · exact .inr ⟨by rw [beq_eq_false_iff_ne]; exact h0, by rw [bne_iff_ne]; exact h0, Decidable.byContradiction fun h => hb ⟨h0, h⟩⟩
    clear hb
    have H3 : Hid (∀ w1 G, WD w1 q p Y T G → Calls Tryz.prog 262 #[.pointer (some ⟨q, 0, none⟩)] w1 fun e w' => e = .returned (.int .i64 (wcall Y T false (T.syncDir, 0)).2.2) ∧ WD w' q p (wcall Y T false (T.syncDir, 0)).1 (wcall Y T false (T.syncDir, 0)).2.1 (grow G w1 w') ∧ Touch G w1 w') := Lib.hid fun w1 G h => wsyncDir_any q p Y T G w1 h HX2.out HS2.out
    generalize wcall Y T false (T.syncDir, 0) = R3 at H3 ⊢
    rcases ht with rfl | ⟨t1, t2, rfl⟩ <;> (
      go_enter Tryz.func87, Tryz.ntmps87
      go_wp2_with (first
        | (go_at_call 124; refine (HL.out _).mono ?_; rintro e w' ⟨rfl, rfl⟩)
        | (go_at_call 259; refine HC.out.mono ?_; rintro e w1 ⟨rfl, h1, h2⟩; have H1 := Lib.hid h1; have H2 := Lib.hid h2; clear h1 h2)
        | (go_at_call 262; refine (H3.out _ _ H1.out).mono ?_; rintro e w2 ⟨rfl, h1, h2⟩; have H4 := Lib.hid h1; have H5 := Lib.hid h2; clear h1 h2)
        | fail)
      go_ret
      exact ⟨rfl, H4.out.mono fun i hi => (grow_trans H2.out.size H5.out.size i).1 hi, H2.out.trans H5.out⟩)
end Go.Proofs.YtcbebefdbdppdaaGreat
namespace Go.Proofs.YtcbebefdbdppdaaGreat
open Go.RowKit Go.Maps
theorem lookE_obj (k : List UInt8) (h1 : 1 ≤ k.length) (h2 : k.length ≤ 255) : lookE (objN k) = 0 := if_pos ⟨(named_iff _).2 (by rw [objN_length]; omega), objN_ne _⟩
set_option maxRecDepth 100000 in
set_option maxHeartbeats 4000000 in
theorem bdrop_any (q p : Nat) (X : Wnd) (S : Drv) (F : Nat → Prop) (k : List UInt8) (h1 : 1 ≤ k.length) (h2 : k.length ≤ 255) (w : World) (hd : WD w q p X S F) (hF : ∀ i, F i → i < w.heap.size) (hX : X.Ok) (hS : S.Small)
    (hX2 : (wcall X S false (S.remove (objN k))).1.Ok) (hS2 : (wcall X S false (S.remove (objN k))).2.1.Small) :
    Calls Tryz.prog 49 #[.iface 36 (.pointer (some ⟨q, 0, none⟩)), strV k] w fun e w' => e = .returned (.int .i64 (aremove X S (objN k)).2.2) ∧ WD w' q p (aremove X S (objN k)).1 (aremove X S (objN k)).2.1 (grow F w w') ∧ Touch F w w' := by
  have HOB := Lib.hid (object_any k h1 h2 w)
  have HRM := Lib.hid fun (w1 : World) (hb : Below w.heap.size w w1) => aremove_any q p X S F (objN k) w1 (hd.below hb) (by rw [objN_length]; unfold maxLen; omega) (lookE_obj k h1 h2) hX hS hX2 hS2
  have HF := Lib.hid hF
  generalize objN k = nm at HOB HRM ⊢
  generalize aremove X S nm = R at HRM ⊢
  unfold strV at HOB ⊢
  clear hd hF hX hS hX2 hS2 h1 h2
  go_enter Tryz.func49, Tryz.ntmps49
  go_wp2_with fail
  refine HOB.out.mono ?_
  rintro e w1 ⟨rfl, hb1⟩
  have HB1 := Lib.hid hb1
  clear hb1
  go_wp2_with fail
  refine (HRM.out w1 HB1.out).mono ?_
  rintro e w2 ⟨rfl, hd2, ht2⟩
  have hsz := HB1.out.size
  have HE : Hid (WD w2 q p R.1 R.2.1 (grow F w w2) ∧ Touch F w w2) := Lib.hid ⟨hd2.mono fun i hi => by
    rcases hi with h | h
    · exact .inl h
    · exact .inr ⟨Nat.le_trans hsz h.1, h.2⟩, (Touch.of_below HB1.out).trans (ht2.mono fun i _ hi => .inl hi)⟩
  clear hd2 ht2
  go_wp2_with fail
  go_ret
  exact ⟨rfl, HE.out⟩
end Go.Proofs.YtcbebefdbdppdaaGreat
namespace Go.Proofs.YtcbebefdbdppdaaGreat
open Go.RowKit Go.Maps
structure Stored (X : Wnd) (S : Drv) (nm : Nm) (bs : List UInt8) (r c N : Nat) : Prop where
  calm : Calm X
  kept : Kept X S c N r
  shows : S.shows nm = some bs
  other : ∀ s, s ≠ tmpN → s ≠ nm → S.shows s = none
theorem Stored.read {X : Wnd} {S : Drv} {nm : Nm} {bs : List UInt8} {r c N : Nat} (h : Stored X S nm bs r c N) (hn : named nm = true) : S.read nm = (bs, 0) := by
  rw [read_shows hn, h.shows]
theorem Stored.count {X : Wnd} {S : Drv} {nm : Nm} {bs : List UInt8} {r c N : Nat} (h : Stored X S nm bs r c N) : Stored X.count S nm bs r (c + 1) N :=
  ⟨h.calm.count, ⟨by have h9 := struck_okn h.kept.wnd false; rw [h.calm.struck] at h9; exact h9, h.kept.drv, h.kept.room⟩, h.shows, h.other⟩
theorem stored_new (r : Nat) (hr : r ≤ 1073741824) (nm : Nm) (bs : List UInt8) (hn : named nm = true) (hnt : nm ≠ tmpN) (hb : bs ≠ []) (hl : bs.length ≤ r) (X : Wnd) (c : Nat) (hX : Calm X) (hXo : X.Okn c) :
    (awrite X (Drv.new r) nm bs).2.2 = 0 ∧ Stored (awrite X (Drv.new r) nm bs).1 (awrite X (Drv.new r) nm bs).2.1 nm bs r (c + 5) 5 := by
  have hK : Kept X (Drv.new r) c 0 r := ⟨hXo, (kept_new r hr).drv, (kept_new r hr).room⟩
  obtain ⟨h0, hC⟩ := calm_awrite hK hX (by omega) (holds_new r) nm bs hn hnt rfl (show (0 : Nat) < 65536 by decide) hb (by show (0 : Int) + bs.length ≤ r; omega)
  have hE := awrite_law hn hnt hK (by omega) (holds_new r) (rfl : awrite X (Drv.new r) nm bs = (_, _, _))
  exact ⟨h0, hC, awrite_kept hK nm bs (by omega), (hE.ok h0).2, fun s h1 h2 => (hE.others s h1 h2).trans rfl⟩
theorem read_le {S : Drv} {N : Nat} (h : S.Inv N) (nm : Nm) : (S.read nm).1.length ≤ 1099511627776 := by
  unfold Drv.read
  split
  · exact Nat.zero_le _
  · rename_i i _ _
    have h1 := h.len i
    have h2 := h.room
    have h3 : (S.body i).data.length = S.len i := rfl
    show (S.body i).data.length ≤ _
    omega
theorem list_one {L : List (List UInt8)} {x : List UInt8} (hn : L.Nodup) (h : ∀ y, y ∈ L ↔ y = x) : L = [x] := by
  match L, hn, h with
  | [], _, h => exact absurd ((h x).2 rfl) (by simp)
  | [y], _, h => rw [(h y).1 (List.mem_singleton.2 rfl)]
  | y :: z :: r, hn, h =>
    have h1 := (h y).1 (by simp)
    have h2 := (h z).1 (by simp)
    rw [h1, h2] at hn
    simp at hn
theorem Stored.keys {X : Wnd} {S : Drv} {nm key : Nm} {bs : List UInt8} {r c N : Nat} (h : Stored X S nm bs r c N) (hk : keyN nm = some key) : underK (dnames S.now) = [key] := by
  refine list_one (underK_nodup _) fun y => ?_
  rw [mem_underK]
  have hI := h.kept.drv
  constructor
  · rintro ⟨s, hs, hy⟩
    by_cases h1 : s = tmpN
    · rw [h1] at hy; cases hy
    · by_cases h2 : s = nm
      · rw [h2, hk] at hy; injection hy with hy; exact hy.symm
      · obtain ⟨_, i, hi⟩ := hI.fnow s (mem_dnames hI.know hI.tnow hs)
        have h3 := h.other s h1 h2
        unfold Drv.shows at h3
        rw [hi] at h3
        cases h3
  · rintro rfl
    have h3 := h.shows
    unfold Drv.shows at h3
    cases e : dget S.now nm with
    | none => rw [e] at h3; cases h3
    | some i => exact ⟨nm, has_dnamesK hI.know hI.tnow (has_of_dget e), hk⟩
theorem Stored.names {X : Wnd} {S : Drv} {nm : Nm} {bs : List UInt8} {r c N : Nat} (h : Stored X S nm bs r c N) (hN : N ≤ 1000) : size S.now ≤ 2199023255552 ∧ (∀ s ∈ dnames S.now, s.length ≤ 1024) ∧ (dnames S.now).length ≤ 1000 := by
  have hI := h.kept.drv
  refine ⟨by have := hI.snow; omega, fun s hs => (hI.fnow s (mem_dnames hI.know hI.tnow hs)).1, ?_⟩
  have h1 := hI.snow
  rw [dnames_length]
  omega
theorem Stored.gone {X : Wnd} {S : Drv} {nm : Nm} {bs : List UInt8} {r c N : Nat} (h : Stored X S nm bs r c N) (hn : named nm = true) (hN : N + 2 ≤ 1073741824) :
    (aremove X S nm).2.2 = 0 ∧ (aremove X S nm).1 = X.count.count ∧ Kept X.count.count (aremove X S nm).2.1 (c + 2) (N + 2) r ∧ (aremove X S nm).2.1.read nm = ([], 110) ∧ (wcall X S false (S.remove nm)).1.Okn (c + 1) ∧ (wcall X S false (S.remove nm)).2.1.Inv (N + 1) := by
  have hI := h.kept.drv
  obtain ⟨i, hi⟩ : ∃ i, dget S.now nm = some i := by
    have h3 := h.shows
    unfold Drv.shows at h3
    cases e : dget S.now nm with
    | none => rw [e] at h3; cases h3
    | some i => exact ⟨i, rfl⟩
  have hf : S.find nm = (some i, 0) := by unfold Drv.find; rw [hn, hi]; rfl
  have hrm : S.remove nm = (S.change [(nm, none)], 0) := by unfold Drv.remove; rw [hf]
  have hIr := Drv.remove_inv hI nm (by omega)
  have hkr := Drv.remove_keepsRoom S nm
  rw [hrm] at hIr hkr
  have e1 : wcall X S false (S.remove nm) = (X.count, S.change [(nm, none)], 0) := by rw [h.calm.call, hrm]
  have e2 : aremove X S nm = (X.count.count, (S.change [(nm, none)]).syncDir, 0) := by
    unfold aremove
    rw [e1, if_neg (by intro h; exact h.1 rfl), h.calm.count.call]
  have h1 : (X.count).Okn (c + 1) := h.count.kept.wnd
  rw [e2, e1]
  refine ⟨rfl, rfl, ⟨h.count.count.kept.wnd, Drv.syncDir_inv hIr (by omega), hkr.trans h.kept.room⟩, ?_, h1, hIr⟩
  have hs : (S.change [(nm, none)]).syncDir.shows nm = none := by
    unfold Drv.shows
    show ((S.change [(nm, none)]).syncDir).cont (dget (S.change [(nm, none)]).now nm) = none
    rw [change_now, show applyC S.now [(nm, none)] = applyStp S.now (nm, none) from rfl, dget_stp hI.tnow, if_pos rfl]
    rfl
  rw [read_shows hn, hs]
end Go.Proofs.YtcbebefdbdppdaaGreat

/- What a law writes where there is no drive.; What is kept: the laws of a kept world, for all that a script does; the wound's and the disk's own methods in a world of one drive. No condition.; The drive's Loose. -/
import Derived.Test.YtdmcjomcbhdcbaaGreatM31
import Derived.Test.YtdmcjomcbhdcbaaGreatM13
import Derived.Test.YtdmcjomcbhdcbaaGreatM5
import Derived.Test.YtdmcjomcbhdcbaaGreatM7
namespace Go.Proofs.YtdmcjomcbhdcbaaGreat
open Go.RowKit Go.Maps

set_option maxRecDepth 100000 in
set_option maxHeartbeats 4000000 in
theorem lwrite_nil (w : World) (nm : Nm) (A : Option Addr) (n c0 : Nat) (bs : List UInt8) (hn : n = bs.length) (hnl : n ≤ 1099511627776) (hr : Reads w w.heap.size 1 A n (bs.map B8)) :
    Calls Tryz.prog 18 #[.nilIface, .string ⟨nm.toArray⟩, .slice A n c0] w fun e w' => e = .returned (.tuple #[.int .i64 1, .bool true]) ∧ Below w.heap.size w w' := by
  have HLENT := Lib.hid (lent_any A n c0 bs w hn hnl hr)
  have HR := Lib.hid hr
  have HN := Lib.hid hn
  have HXR := Lib.hid (xor_cell · 85)
  have hzero : (0 : Int) ≤ (n : Int) := by omega
  have h95 : (0 : Int) < 85 := by omega
  clear hr hn
  go_enter Tryz.func18, Tryz.ntmps18
  go_wp2_with (first
    | (go_at_call 47; (refine HLENT.out.mono ?_); rintro e w1 ⟨a, c, rfl, hc64, ho1, hb1⟩; have HO1 := Lib.hid ho1; have HB1 := Lib.hid hb1; clear ho1 hb1)
    | (go_at_call 10; (refine (write_nil ⟨nm.toArray⟩ a n c w1).mono ?_); rintro e w2 ⟨rfl, hb2⟩; have HB2 := Lib.hid hb2; clear hb2)
    | (go_at_call 48; (refine (unmarked_any a n c A c0 bs w.heap.size w2 ⟨HN.out, hc64, ownsRow_below HO1.out HB2.out⟩ hnl (((HR.out.below HB1.out).below (HB2.out.mono HB1.out.size)).more (by have h1 := HB1.out.size; have h2 := HB2.out.size; omega))).mono ?_); rintro e w3 ⟨rfl, hb3⟩; have HB3 := Lib.hid hb3; clear hb3)
    | fail)
  go_loopw [10] (fun s wr => ∃ j : Nat, j ≤ n ∧ s = .int .i64 j ∧ ∃ xs : List UInt8, xs.length = n + 64 ∧ wr.ownsRow w.heap.size 5 1 (.slice a (n + 64) c) (n + 64) (xs.map B8) ∧ Below w.heap.size w wr) (fun s _ => n - (intOf s).toNat)
  case atStart =>
    refine ⟨0, Nat.zero_le _, rfl, bs ++ marks 64, by rw [List.length_append, marks_length, HN.out], ?_, ?_⟩
    · exact ownsRow_below (ownsRow_below HO1.out HB2.out) HB3.out
    · exact (HB1.out.trans (HB2.out.mono HB1.out.size)).trans (HB3.out.mono (by have h1 := HB1.out.size; have h2 := HB2.out.size; omega))
  case round =>
    obtain ⟨j, hj, rfl, xs, hxl, hown, hbw⟩ := hrel
    by_cases hlt : j < n
    · obtain ⟨x0, hx⟩ : ∃ x, xs[j]? = some x := ⟨_, List.getElem?_eq_getElem (by omega)⟩
      obtain ⟨g2, rfl⟩ : ∃ g2, a = some ⟨g2, 0, none⟩ := by
        rcases hown.2 with ⟨_, h0⟩ | ⟨g2, _, _, e, _⟩
        · omega
        · injection e with e; exact ⟨g2, e⟩
      have hgc : wr.cell? ⟨g2, j, none⟩ = some (.int .u8 (x0.toNat : Int)) := by
        obtain ⟨ad2, u2, e2, _, hu2, hc2⟩ := (Reads.of_own hown).at_ (k := j) (by omega)
        injection e2 with e2
        subst e2
        rw [List.getElem?_map, hx] at hu2
        injection hu2 with hu2
        subst hu2
        rw [add_plain, Nat.zero_add] at hc2
        exact hc2
      have hgf : ∀ j, wr.frozen? ⟨g2, j, none⟩ = false := fun j => hown.frozenAt j
      have hg2 : g2 < wr.heap.size ∧ w.heap.size ≤ g2 ∧ g2 < w1.heap.size := by have h1 := hown.lt g2 rfl; have h2 := lent_in HO1.out rfl; simp only at h2; omega
      obtain ⟨hg2a, hg2b, hg2c⟩ := hg2
      have HNX : Hid ((wr.setCell ⟨g2, j, none⟩ (B8 (x0 ^^^ 85))).ownsRow w.heap.size 5 1 (.slice (some ⟨g2, 0, none⟩) (n + 64) c) (n + 64) ((xs.set j (x0 ^^^ 85)).map B8)) := Lib.hid (by
        have h1 := (hown.stored j (B8 (x0 ^^^ 85))).1
        rw [← List.map_set] at h1
        exact h1)
      have HXC : Hid (Value.int IntKind.u8 (bits BinOp.xor IntKind.u8 (x0.toNat : Int) 85) = B8 (x0 ^^^ 85)) := Lib.hid (HXR.out x0)
      have HBN : Hid (Below w.heap.size w (wr.setCell ⟨g2, j, none⟩ (B8 (x0 ^^^ 85)))) := Lib.hid (hbw.setCell hg2b _)
      have hj0 : (0 : Int) ≤ (j : Int) := by omega
      have hj1 : (j : Int) < (n : Int) := by omega
      have hjc : (j : Int) < (c : Int) := by omega
      have HXL : Hid ((xs.set j (x0 ^^^ 85)).length = n + 64) := Lib.hid (by rw [List.length_set]; exact hxl)
      clear hown hbw hx
      go_wp2
      rw [HXC.out]
      exact ⟨⟨j + 1, by omega, by go_num, _, HXL.out, HNX.out, HBN.out⟩, by simp only [intOf]; omega⟩
    · have hjn : j = n := by omega
      subst hjn
      have HBF := Lib.hid hbw
      clear hown hbw
      go_wp2
      go_ret2
      exact ⟨rfl, HBF.out⟩
end Go.Proofs.YtdmcjomcbhdcbaaGreat
namespace Go.Proofs.YtdmcjomcbhdcbaaGreat
open Go.RowKit Go.Maps

section
variable {X : Wnd} {S : Drv} {k N r : Nat}
theorem turnW_keptM (h : KeptM X S k N r) (nm : Nm) (bs : List UInt8) (hr : N + 5 ≤ 1073741824) : KeptM (turnW X S nm bs).1 (turnW X S nm bs).2.1 (k + 5) (N + 5) r := by
  unfold turnW
  split
  · exact awrite_keptM h nm bs hr
  · exact h.mono (by omega) (by omega) hr
theorem wremove_keptM (h : KeptM X S k N r) (nm : Nm) (hr : N + 1 ≤ 1073741824) : KeptM (wcall X S false (S.remove nm)).1 (wcall X S false (S.remove nm)).2.1 (k + 1) (N + 1) r :=
  wcall_keptM h false _ (Drv.remove_inv h.k.drv nm hr) (Drv.remove_keepsRoom _ _) ((Drv.remove_refs h.m nm).mono (by omega)) hr
theorem wsyncDir_keptM (h : KeptM X S k N r) (hr : N + 1 ≤ 1073741824) : KeptM (wcall X S false (S.syncDir, 0)).1 (wcall X S false (S.syncDir, 0)).2.1 (k + 1) (N + 1) r :=
  wcall_keptM h false _ (Drv.syncDir_inv h.k.drv hr) rfl ((Drv.syncDir_refs h.m h.k.drv).mono (by omega)) hr
theorem aremove_keptM (h : KeptM X S k N r) (nm : Nm) (hr : N + 2 ≤ 1073741824) : KeptM (aremove X S nm).1 (aremove X S nm).2.1 (k + 2) (N + 2) r := by
  unfold aremove
  split
  · exact (wremove_keptM h nm (by omega)).mono (by omega) (by omega) hr
  · exact wsyncDir_keptM (wremove_keptM h nm (by omega)) (by omega)
theorem asweepEnd_keptM (h : KeptM X S k N r) (n : Int) (hr : N + 1 ≤ 1073741824) : KeptM (asweepEnd X S n).1 (asweepEnd X S n).2.1 (k + 1) (N + 1) r := by
  unfold asweepEnd
  split
  · exact wsyncDir_keptM h hr
  · exact wsyncDir_keptM h hr
theorem asweep_keptM (h : KeptM X S k N r) (hr : N + 3 ≤ 1073741824) : KeptM (asweep X S).1 (asweep X S).2.1 (k + 3) (N + 3) r := by
  have h1 : KeptM (wread X (dnames S.now, (0 : Int))).1 S (k + 1) (N + 1) r := wread_keptM h _ (by omega)
  unfold asweep
  split
  · exact h1.mono (by omega) (by omega) hr
  · split
    · split
      · exact (wremove_keptM h1 _ (by omega)).mono (by omega) (by omega) hr
      · exact asweepEnd_keptM (wremove_keptM h1 _ (by omega)) 1 (by omega)
    · exact (asweepEnd_keptM h1 0 (by omega)).mono (by omega) (by omega) hr
theorem Drv.flip_keepsRoom (S : Drv) (s : Nm) (n : Int) (pat : List UInt8) : (S.flip s n pat).1.room = S.room := by
  unfold Drv.flip
  split
  · rfl
  · split
    · rfl
    · split <;> rfl
theorem Drv.cut_keepsRoom (S : Drv) (s : Nm) (n : Int) : (S.cut s n).1.room = S.room := by
  unfold Drv.cut
  split
  · rfl
  · split
    · rfl
    · split <;> rfl
theorem Drv.crash_keepsRoom (S : Drv) (dirs : List Bool) (cuts : List Int) : (S.crash dirs cuts).room = S.room := rfl
theorem KeptM.wnd {Y : Wnd} (h : KeptM X S k N r) (hY : Y.Okn k) : KeptM Y S k N r := ⟨⟨hY, h.k.drv, h.k.room⟩, h.m⟩
theorem KeptM.flip (h : KeptM X S k N r) (s : Nm) (n : Int) (bs : List UInt8) : KeptM X (S.flip s n bs).1 k N r :=
  ⟨⟨h.k.wnd, Drv.flip_inv h.k.drv s n bs, (Drv.flip_keepsRoom S s n bs).trans h.k.room⟩, Drv.flip_refs h.m s n bs⟩
theorem KeptM.cut (h : KeptM X S k N r) (s : Nm) (n : Int) : KeptM X (S.cut s n).1 k N r :=
  ⟨⟨h.k.wnd, Drv.cut_inv h.k.drv s n, (Drv.cut_keepsRoom S s n).trans h.k.room⟩, Drv.cut_refs h.m s n⟩
theorem KeptM.wipe (h : KeptM X S k N r) : KeptM X (Drv.new S.room) k N r :=
  ⟨⟨h.k.wnd, Drv.new_inv _ _ h.k.drv.room h.k.drv.rooms, h.k.room⟩, Drv.new_refs _ _⟩
theorem KeptM.crash (h : KeptM X S k N r) (dirs : List Bool) (cuts : List Int) : KeptM X (S.crash dirs cuts) k N r :=
  ⟨⟨h.k.wnd, Drv.crash_inv h.k.drv dirs cuts, (Drv.crash_keepsRoom S dirs cuts).trans h.k.room⟩, Drv.crash_refs h.k.drv dirs cuts⟩
end
end Go.Proofs.YtdmcjomcbhdcbaaGreat
namespace Go.Proofs.YtdmcjomcbhdcbaaGreat
open Go.RowKit Go.Maps

theorem loose_any (p : Nat) (S : Drv) (addr : List Nat) (F : Nat → Prop) (s : ByteArray) (w : World) (hs : s.size ≤ maxLen) (hd : DrA w p S addr F) (hl : ∀ i, S.len i ≤ 2147483648) (hsf : ∀ i, (S.body i).safe ≤ 2147483648) :
    Calls Tryz.prog 81 #[.pointer (some ⟨p, 0, none⟩), .string s] w fun e w' =>
      e = .returned (.tuple #[.int .i64 (S.loose s.data.toList).1, .int .i64 (S.loose s.data.toList).2]) ∧ Below w.heap.size w w' := by
  have HF := Lib.hid (find_any p S addr F s w hs hd)
  have HS := Lib.hid hs; clear hs
  rcases find_cases S s.data.toList with ⟨hf, he⟩ | ⟨i, hf, hg⟩
  · obtain ⟨x, hx⟩ : ∃ x, x = (S.find s.data.toList).2 := ⟨_, rfl⟩
    rw [← hx] at hf he
    have HR : Hid (S.loose s.data.toList = (0, x)) := by unfold Drv.loose; rw [hf]; exact rfl
    rw [hf] at HF
    simp only [ptrO] at HF
    have hne : (x != 0) = true := by rcases he with rfl | rfl <;> rfl
    clear hd hl hx hf he hsf
    rw [HR.out]
    go_enter Tryz.func81, Tryz.ntmps81
    go_wp2_with (go_at_call 97; refine HF.out.mono ?_; rintro e w' ⟨rfl, rfl⟩)
    go_ret2
    exact ⟨rfl, Below.refl _ _⟩
  · have HR : Hid (S.loose s.data.toList = ((S.len i : Int) - (S.body i).safe, 0)) := by unfold Drv.loose; rw [hf]; exact rfl
    rw [hf] at HF
    simp only [ptrO] at HF
    obtain ⟨L, rfl, hD, _⟩ := hd
    have hil : i < S.bodies.length := by rw [← hD.la]; exact hD.now.dget_lt _ (by rw [len_size]; exact HS.out) hg
    obtain ⟨a, c, hv, _⟩ := own_shape (hD.data i hil)
    have hc : w.cell? ⟨adrOf L.addr i, 0, none⟩ = some (.slice a (S.len i) c) := by have := (hD.body i hil).cell 0; rw [hv] at this; exact this
    have hc1 : w.cell? ⟨adrOf L.addr i, 1, none⟩ = some (.int .i64 (S.body i).safe) := (hD.body i hil).cell 1
    have hlen := hl i
    have hsl := hsf i
    clear hD hv hf hg hl hsf
    rw [HR.out]
    go_enter Tryz.func81, Tryz.ntmps81
    go_wp2_with (go_at_call 97; refine HF.out.mono ?_; rintro e w' ⟨rfl, rfl⟩)
    go_quiet (fail)
    go_wp2
    go_ret2
    exact ⟨rfl, below_drewN (Below.refl _ _) _⟩
theorem remove_bad (q : Addr) (s : List UInt8) (hs : s.length ≤ maxLen) (hx : lookE s ≠ 0) (w : World) : Calls Tryz.prog 16 #[.iface 40 (.pointer (some q)), .string ⟨s.toArray⟩] w fun e w' => e = .returned (.int .i64 91) ∧ Below w.heap.size w w' := by
  have h : lookE s = 91 := by
    unfold lookE at hx ⊢
    split at hx
    · exact absurd rfl hx
    · rename_i h; exact if_neg h
  have HL : Hid (∀ W, Calls Tryz.prog 38 #[.iface 40 (.pointer (some q)), .string ⟨s.toArray⟩] W fun e w' => e = .returned (.int .i64 91) ∧ W = w') := Lib.hid fun W => by
    have := look_any q s W hs
    rw [h] at this
    exact this
  clear hx h hs
  go_enter Tryz.func16, Tryz.ntmps16
  go_wp2_with (go_at_call 38; refine (HL.out _).mono ?_; rintro e w' ⟨rfl, rfl⟩)
  go_ret
  exact ⟨rfl, Below.refl _ _⟩
theorem remove_nil (s : ByteArray) (w : World) : Calls Tryz.prog 16 #[.nilIface, .string s] w fun e w' => e = .returned (.int .i64 1) ∧ Below w.heap.size w w' := by
  go_enter Tryz.func16, Tryz.ntmps16
  go_wp2_with (go_at_call 38; refine (look_nil _ _).mono ?_; rintro e w' ⟨rfl, rfl⟩)
  go_ret
  exact ⟨rfl, Below.refl _ _⟩
end Go.Proofs.YtdmcjomcbhdcbaaGreat

/- WoundOwn's helpers: bytes with marks behind them in the same memory. -/
import Derived.Test.YtdmcjomcbhdcbaaOa
namespace Go.Proofs.Ytdmcjomcbhdcbaa
open Go.RowKit Go.Maps

def mrk (k : Nat) : List UInt8 := ([201, 202, 203, 204, 205, 206, 207, 208] : List UInt8).take k
theorem mrk_succ {k : Nat} (hk : k < 8) : (mrk k).map B8 ++ [.int .u8 (201 + (k : Int))] = (mrk (k + 1)).map B8 := by
  match k, hk with
  | 0, _ => rfl
  | 1, _ => rfl
  | 2, _ => rfl
  | 3, _ => rfl
  | 4, _ => rfl
  | 5, _ => rfl
  | 6, _ => rfl
  | 7, _ => rfl
theorem mrk_len : (mrk 8).length = 8 := rfl
set_option maxRecDepth 100000 in
set_option maxHeartbeats 4000000 in
theorem roomy_any (A : Option Addr) (n c : Nat) (bs : List UInt8) (w : World) (B : Nat) (hr : Reads w B 1 A n (bs.map B8)) (hn : n ≤ 1000000) :
    Calls Try.prog 13 #[.slice A n c] w fun e w' => ∃ g c', e = .returned (.slice (some ⟨g, 0, none⟩) (n + 8) c') ∧ w'.ownsRow w.heap.size 5 1 (.slice (some ⟨g, 0, none⟩) (n + 8) c') (n + 8) ((bs ++ mrk 8).map B8) ∧ Below w.heap.size w w' := by
  have HTW := Lib.hid (twin_any A n c bs w B hr (by omega))
  clear hr
  obtain ⟨i5, hi5, hz0, hz1, hz2⟩ := info_parts byteInfo
  go_enter Try.func13, Try.ntmps13
  go_wp2_with fail
  refine HTW.out.mono ?_
  rintro e w1 ⟨v, rfl, ho, hb⟩
  obtain ⟨a1, c1, rfl, _⟩ := own_shape ho
  have HO := Lib.hid ho
  have HB := Lib.hid hb
  clear ho hb HTW
  go_wp2_with fail
  go_loopw [3, 4] (fun s1 s2 wr => ∃ (k : Nat) (a : Option Addr) (c2 : Nat), k ≤ 8 ∧ s2 = .int .i64 k ∧ s1 = .slice a (n + k) c2 ∧ wr.ownsRow w.heap.size 5 1 (.slice a (n + k) c2) (n + k) ((bs ++ mrk k).map B8) ∧ Below w.heap.size w wr) (fun _ s _ => 8 - (intOf s).toNat)
  case atStart => exact ⟨0, a1, c1, by omega, rfl, rfl, by rw [show mrk 0 = [] from rfl, List.append_nil, Nat.add_zero]; exact HO.out, HB.out⟩
  case round =>
    obtain ⟨k, a, c2, hk, rfl, rfl, ho, hb⟩ := hrel
    have HO2 := Lib.hid ho
    have HB2 := Lib.hid hb
    have hs := hb.size
    clear ho hb
    by_cases hk2 : k < 8
    · have hmod : (201 + (k : Int)) % 256 = 201 + (k : Int) := by omega
      go_wp2_with (at_builtin; (refine wpList_append_any _ rfl _ _ 22 rfl w.heap.size 5 i5 _ 1 1 Try.underlying22 hi5 hz0 hz1 hz2 rfl (by omega) (.slice a (n + k) c2) (n + k) _ rfl (HO2.out.alloc _) (wr.heap.size + 1) (some ⟨wr.heap.size, 0, none⟩) 1 1 [.int .u8 (201 + (k : Int))] rfl (reads_blk (t := 5) (blk_last _ _ _ _ rfl) (by omega) rfl) (by intro u hu; simp at hu; subst hu; rfl) (by unfold maxLen; omega) (by omega) (by rw [alloc_size]; omega) ?_; intro v3 w3 hown hg hat; obtain ⟨a9, c9, hv9, _⟩ := own_shape hown; subst hv9; have HO3 := Lib.hid hown; have HB3 := Lib.hid ((HB2.out.alloc hs _).trans ((Below.refl _ _).grown hg (by rw [alloc_size]; omega) (fun b hb => (HO2.out.lt b hb).1))); clear hown hg hat))
      go_roundw
      case rel =>
        refine ⟨k + 1, a9, c9, by omega, by go_num, rfl, ?_, HB3.out⟩
        have h := HO3.out
        rw [List.map_append, List.append_assoc, mrk_succ hk2, ← List.map_append] at h
        exact h
      case measure => simp [intOf]; omega
    · obtain rfl : k = 8 := by omega
      obtain ⟨g, rfl⟩ := own_head HO2.out (by omega)
      go_wp2
      go_ret
      exact ⟨g, c2, rfl, HO2.out, HB2.out⟩

theorem stays_any (g n c : Nat) (A : Option Addr) (d : Nat) (bs : List UInt8) (w : World) (hl : bs.length = n) (hr : Reads w w.heap.size 1 (some ⟨g, 0, none⟩) (n + 8) ((bs ++ mrk 8).map B8)) (hd : Reads w w.heap.size 1 A n (bs.map B8)) (hn : n ≤ 1000000) :
    Calls Try.prog 16 #[.slice (some ⟨g, 0, none⟩) (n + 8) c, .slice A n d] w fun e w' => e = .returned (.bool true) ∧ Below w.heap.size w w' := by
  have hlen : (bs ++ mrk 8).length = n + 8 := by rw [List.length_append, mrk_len, hl]
  have HRO := Lib.hid (fun (W : World) (hW : Below w.heap.size w W) => roomy_any A n d bs W w.heap.size (hd.below hW) hn)
  obtain ⟨s, hs⟩ : ∃ s : ByteArray, s = ⟨(bs ++ mrk 8).toArray⟩ := ⟨_, rfl⟩
  have HCV : Hid (∀ W, Below w.heap.size w W → (convert 22 9 (.slice (some ⟨g, 0, none⟩) (n + 8) c)).run Try.prog W = .ok (.string s) W) := Lib.hid fun W hW => by
    have h := conv_any W w.heap.size (some ⟨g, 0, none⟩) (bs ++ mrk 8) c (by rw [hlen]; exact hr.below hW)
    rw [hlen, ← hs] at h
    exact h
  have HCN : Hid (∀ (W : World) (base g2 c2 : Nat), W.ownsRow base 5 1 (.slice (some ⟨g2, 0, none⟩) (n + 8) c2) (n + 8) ((bs ++ mrk 8).map B8) → (convert 22 9 (.slice (some ⟨g2, 0, none⟩) (n + 8) c2)).run Try.prog W = .ok (.string s) W) := Lib.hid fun W base g2 c2 ho => by
    have h := conv_any W W.heap.size (some ⟨g2, 0, none⟩) (bs ++ mrk 8) c2 (by rw [hlen]; exact Reads.of_own ho)
    rw [hlen, ← hs] at h
    exact h
  clear hr hd hs hlen hl
  go_enter Try.func16, Try.ntmps16
  go_wp2_with fail
  refine wp_region_held_drew (S := (fun w' => (convert 22 9 (.slice (some ⟨g, 0, none⟩) (n + 8) c)).run Try.prog w' = .ok (.string s) w')) (by kernel_rfl) ?_ (fun hHeld => ?_)
  · ((try dsimp only); (first | exact HCV.out _ (below_drewN (Below.refl _ w) 1) | exact HCV.out _ HBV.out))
  refine wpAnyH_take (i := 0) (oi := ⟨_, _, _, _, _, _⟩) (v := ?_) rfl (by kernel_rfl) (by kernel_rfl) (by kernel_rfl) (fun _ _ _ h => h) (Or.inl ⟨by kernel_rfl, ?_⟩) (by assumption) ?_
  rotate_left
  · (intro wS hSw; (try dsimp only at hSw); go_simp; try with_reducible rfl)
  try simp only [Act.put, List.setIfInBounds_toArray, List.set_cons_zero, List.set_cons_succ]
  refine wpAnyH_take (i := 1) (oi := ⟨_, _, _, _, _, _⟩) (v := ?_) rfl (by kernel_rfl) (by kernel_rfl) (by kernel_rfl) (fun _ _ _ h => h) (Or.inl ⟨by kernel_rfl, ?_⟩) (by assumption) ?_
  rotate_left
  · (intro wS hSw; (try dsimp only at hSw); go_simp; try with_reducible rfl)
  try simp only [Act.put, List.setIfInBounds_toArray, List.set_cons_zero, List.set_cons_succ]
  refine wpAnyH_take (i := 2) (oi := ⟨_, _, _, _, _, _⟩) (v := ?_) rfl (by kernel_rfl) (by kernel_rfl) (by kernel_rfl) (fun _ _ _ h => h) (Or.inl ⟨by kernel_rfl, ?_⟩) (by assumption) ?_
  rotate_left
  · (intro wS hSw; (try dsimp only at hSw); go_simp; try with_reducible rfl)
  try simp only [Act.put, List.setIfInBounds_toArray, List.set_cons_zero, List.set_cons_succ]
  refine wpAnyH_ready (rs := [3]) (by kernel_rfl) (by simp) (AllReadyH.cons (o := _) rfl (fun K hK => ?b1y1x3) AllReadyH.nil)
  go_simp; go_at_call 13; refine (HRO.out _ (below_drewN (Below.refl _ w) 1)).mono ?_; rintro e V ⟨g2, c2, rfl, ho, hb⟩; have HBV : Hid (Below w.heap.size w V) := Lib.hid ((below_drewN (Below.refl _ w) 1).trans hb); have hc2 : (convert 22 9 (.slice (some ⟨g2, 0, none⟩) (n + 8) c2)).run Try.prog V = .ok (.string s) V := HCN.out _ _ _ _ ho; clear ho hb
  refine hK.out _ _ ?_ (fun hHeld => ?_)
  · ((try dsimp only); (first | exact HCV.out _ (below_drewN (Below.refl _ w) 1) | exact HCV.out _ HBV.out))
  clear hK K; try simp only [Act.put, List.setIfInBounds_toArray, List.set_cons_zero, List.set_cons_succ]
  refine wpAnyH_ready (rs := [4]) (by kernel_rfl) (by simp) (AllReadyH.cons (o := _) rfl (fun K hK => ?b1y2x4) AllReadyH.nil)
  go_simp
  refine hK.out _ _ ?_ (fun hHeld => ?_)
  · ((try dsimp only); (first | exact HCV.out _ (below_drewN (Below.refl _ w) 1) | exact HCV.out _ HBV.out))
  clear hK K; try simp only [Act.put, List.setIfInBounds_toArray, List.set_cons_zero, List.set_cons_succ]
  refine wpAnyH_take (i := 5) (oi := ⟨_, _, _, _, _, _⟩) (v := ?_) rfl (by kernel_rfl) (by kernel_rfl) (by kernel_rfl) (fun _ _ _ h => h) (Or.inl ⟨by kernel_rfl, ?_⟩) (by assumption) ?_
  rotate_left
  · (intro wS hSw; (try dsimp only at hSw); go_simp; try with_reducible rfl)
  try simp only [Act.put, List.setIfInBounds_toArray, List.set_cons_zero, List.set_cons_succ]
  refine wpAnyH_take (i := 6) (oi := ⟨_, _, _, _, _, _⟩) (v := ?_) rfl (by kernel_rfl) (by kernel_rfl) (by kernel_rfl) (fun _ _ _ h => h) (Or.inl ⟨by kernel_rfl, ?_⟩) (by assumption) ?_
  rotate_left
  · (intro wS hSw; (try dsimp only at hSw); go_simp; try with_reducible rfl)
  try simp only [Act.put, List.setIfInBounds_toArray, List.set_cons_zero, List.set_cons_succ]
  refine wpAnyH_done (by kernel_rfl) ?_ _
  go_wp2
  go_ret
  exact ⟨by simp, HBV.out⟩
end Go.Proofs.Ytdmcjomcbhdcbaa

/- Append of a wound. -/
import Derived.Test.YtdmcjomcbhdcbaaWt
import Derived.Deep.RegionWith
namespace Go.Proofs.Ytdmcjomcbhdcbaa
open Go.RowKit Go.Maps

theorem Reads.touch {w w' : World} {B size n : Nat} {A : Option Addr} {xs : List Value} {G : Nat → Prop} (h : Reads w B size A n xs) (ht : Touch G w w') (hB : B ≤ w.heap.size) (hA : ∀ ad, A = some ad → ¬G ad.block) : Reads w' B size A n xs := by
  refine ⟨h.1, fun hn => ?_⟩
  obtain ⟨ad, e, hb, hc⟩ := h.2 hn
  refine ⟨ad, e, hb, fun j u hu => ?_⟩
  rw [← hc j u hu]
  exact World.cell?_of_block (ht.block _ (by rw [block_of_add]; omega) (by rw [block_of_add]; exact hA ad e))

theorem struck_part {X : Wnd} {may : Bool} (h : 0 < (X.struck may).2.2) : (X.struck may).2.1 ≠ 0 := by
  unfold Wnd.struck at h ⊢
  split
  · simp
  · split
    · simp
    · split
      · simp
      · rename_i h1 h2 h3
        rw [if_neg h1, if_neg h2, if_neg h3] at h
        simp at h

def wappend (X : Wnd) (S : Drv) (s : Nm) (bs : List UInt8) : Wnd × Drv × Int :=
  if (X.struck true).2.1 = 0 then ((X.struck true).1, (S.append s bs).1, (S.append s bs).2)
  else if 0 < (X.struck true).2.2 ∧ bs ≠ [] then ((X.struck true).1, (S.append s (bs.take (X.struck true).2.2.toNat)).1, (X.struck true).2.1)
  else ((X.struck true).1, S, (X.struck true).2.1)

set_option maxHeartbeats 1000000 in
theorem wappend_any (q p : Nat) (X : Wnd) (S : Drv) (F : Nat → Prop) (s : ByteArray) (w : World) (hs : s.size ≤ maxLen) (A : Option Addr) (c : Nat) (bs : List UInt8)
    (hr : Reads w w.heap.size 1 A bs.length (bs.map B8)) (hA : ∀ ad, A = some ad → ¬F ad.block) (hc : bs.length ≤ c) (hb : bs.length ≤ 140737488351232) (h : WD w q p X S F) (hX : X.Ok) (hS : S.Small) :
    Calls Try.prog 15 #[.pointer (some ⟨q, 0, none⟩), .string s, .slice A bs.length c] w fun e w' =>
      e = .returned (.int .i64 (wappend X S s.data.toList bs).2.2) ∧ WD w' q p (wappend X S s.data.toList bs).1 (wappend X S s.data.toList bs).2.1 (grow F w w') ∧ Touch F w w' := by
  obtain ⟨FW, FD, hAp, hF⟩ := h
  have HA := Lib.hid hAp
  have HFF := Lib.hid hF
  have HK := Lib.hid (struck_any q _ X FW true w hAp.wn hX)
  have HSM := Lib.hid hS
  have HRD := Lib.hid hr
  have HNA := Lib.hid hA
  clear hAp hX hS hr hA
  obtain ⟨m, hm⟩ : ∃ m, m = bs.length := ⟨_, rfl⟩
  obtain ⟨z, hz⟩ : ∃ z, z = (X.struck true).2.2 := ⟨_, rfl⟩
  have HZ := Lib.hid hz
  have HM := Lib.hid hm
  by_cases he : (X.struck true).2.1 = 0
  · have hr : wappend X S s.data.toList bs = ((X.struck true).1, (S.append s.data.toList bs).1, (S.append s.data.toList bs).2) := by unfold wappend; rw [if_pos he]
    have HR := Lib.hid hr; clear hr
    have hzn : z ≤ 0 := by
      rcases Int.lt_or_le 0 z with h | h
      · exact absurd he (struck_part (by rw [← hz]; exact h))
      · exact h
    rw [HR.out, ← hm]
    have HE := Lib.hid he; clear he
    rw [← hm] at hc hb
    clear hm hz
    go_enter Try.func15, Try.ntmps15
    go_wp2_with (first
      | (go_at_call 50; refine HK.out.mono ?_; rintro e w1 ⟨rfl, hw1, ht1⟩; rw [HE.out, ← HZ.out]; have q0 : w1.cell? ⟨q, 0, none⟩ = some (.pointer (some ⟨p, 0, none⟩)) := head_cell hw1; have HW1 := Lib.hid hw1; have HT1 := Lib.hid ht1; have HA1 : Hid (Apart w1 q p _ S FW FD) := Lib.hid (HA.out.wound hw1 ht1); clear hw1 ht1)
      | (go_at_call 42; rw [HM.out]; refine (append_any p S FD s w1 hs HA1.out.dr HSM.out A c bs ((HRD.out.touch HT1.out (Nat.le_refl _) (fun ad e hf => HNA.out ad e (HFF.out _ (.inl hf)))).more HT1.out.size) (by rw [← HM.out]; exact hb)).mono ?_; rintro e w2 ⟨rfl, hd2, ht2⟩; have HD2 := Lib.hid hd2; have HT2 := Lib.hid ht2; clear hd2 ht2))
    go_ret
    exact ⟨rfl, both_steps HA.out HFF.out HW1.out HT1.out HD2.out HT2.out⟩
  · obtain ⟨x, hx⟩ : ∃ x, x = (X.struck true).2.1 := ⟨_, rfl⟩
    have HXE := Lib.hid hx
    have hne : (x != 0) = true := by rw [hx]; simpa using he
    by_cases hp : 0 < (X.struck true).2.2 ∧ bs ≠ []
    · obtain ⟨n, hn⟩ : ∃ n, n = (min z (m : Int)).toNat := ⟨_, rfl⟩
      have hz0 : 0 < z := by rw [hz]; exact hp.1
      have hm0 : 0 < m := by rw [hm]; exact List.length_pos_iff.2 hp.2
      have hnm : n ≤ m := by omega
      have hmin : min z (m : Int) = (n : Int) := by omega
      have htk : bs.take n = bs.take z.toNat := by
        rcases Nat.le_total m z.toNat with h | h
        · rw [List.take_of_length_le (by omega), List.take_of_length_le (by omega)]
        · have : n = z.toNat := by omega
          rw [this]
      have hr : wappend X S s.data.toList bs = ((X.struck true).1, (S.append s.data.toList (bs.take n)).1, x) := by unfold wappend; rw [if_neg he, if_pos hp, ← hz, htk, hx]
      have HR := Lib.hid hr; clear hr
      rw [HR.out, ← hm]
      rw [← hm] at hc hb
      have hlt : (bs.take n).length = n := by rw [List.length_take, ← hm]; omega
      have HLT := Lib.hid hlt
      have hnc : n ≤ c := by omega
      have hrn : Reads w w.heap.size 1 A n ((bs.take n).map B8) := by
        have := (HRD.out.cutTo (m := n) (by rw [← hm]; exact hnm))
        rwa [← List.map_take] at this
      have HRN := Lib.hid hrn
      clear hm hz hx he hp htk hlt hrn hn
      go_enter Try.func15, Try.ntmps15
      go_wp2_with (go_at_call 50; refine HK.out.mono ?_; rintro e w1 ⟨rfl, hw1, ht1⟩; rw [← HXE.out, ← HZ.out]; have q0 : w1.cell? ⟨q, 0, none⟩ = some (.pointer (some ⟨p, 0, none⟩)) := head_cell hw1; have HW1 := Lib.hid hw1; have HT1 := Lib.hid ht1; have HA1 : Hid (Apart w1 q p _ S FW FD) := Lib.hid (HA.out.wound hw1 ht1); clear hw1 ht1)
      have HAP := Lib.hid (append_any p S FD s w1.drew hs (HA1.out.dr.keep (Touch.drewN (F := fun _ => False) w1 1) (fun _ _ h => h)) HSM.out A c (bs.take n) (by rw [HLT.out]; exact ((HRN.out.touch HT1.out (Nat.le_refl _) (fun ad e hf => HNA.out ad e (HFF.out _ (.inl hf)))).more HT1.out.size)) (by rw [HLT.out]; omega))
      rw [HLT.out] at HAP
      go_region_with (go_at_call 42; go_loud (refine HAP.out.mono ?_); rintro e w2 ⟨rfl, hd2, ht2⟩; have HD2 := Lib.hid hd2; have HT2 := Lib.hid ht2; clear hd2 ht2)
      all_goals (
        go_wp2
        go_ret
        exact ⟨rfl, both_steps HA.out HFF.out (HW1.out.keep (Touch.drewN (F := fun _ => False) w1 1) (fun _ _ h => h)) (HT1.out.trans (Touch.drewN w1 1)) HD2.out HT2.out⟩)
    · have hr : wappend X S s.data.toList bs = ((X.struck true).1, S, x) := by unfold wappend; rw [if_neg he, if_neg hp, hx]
      have HR := Lib.hid hr; clear hr
      rw [HR.out, ← hm]
      rw [← hm] at hc hb
      by_cases hz0 : z ≤ 0
      · clear hm hz hx he hp
        go_enter Try.func15, Try.ntmps15
        go_wp2_with (go_at_call 50; refine HK.out.mono ?_; rintro e w1 ⟨rfl, hw1, ht1⟩; rw [← HXE.out, ← HZ.out]; have HW1 := Lib.hid hw1; have HT1 := Lib.hid ht1; clear hw1 ht1)
        go_ret
        exact ⟨rfl, wound_step HA.out HFF.out HW1.out HT1.out⟩
      · have hm0 : m = 0 := by
          rcases Nat.eq_zero_or_pos m with h | h
          · exact h
          · exact absurd ⟨by rw [← hz]; omega, by rintro rfl; rw [hm] at h; simp at h⟩ hp
        subst hm0
        have hz1 : 0 < z := by omega
        clear hm hz hx he hp hz0
        go_enter Try.func15, Try.ntmps15
        go_wp2_with (go_at_call 50; refine HK.out.mono ?_; rintro e w1 ⟨rfl, hw1, ht1⟩; rw [← HXE.out, ← HZ.out]; have HW1 := Lib.hid hw1; have HT1 := Lib.hid ht1; clear hw1 ht1)
        go_ret
        exact ⟨rfl, wound_step HA.out HFF.out HW1.out HT1.out⟩
end Go.Proofs.Ytdmcjomcbhdcbaa

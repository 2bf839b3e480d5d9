/- The law's helper: level, of two drives that are alike. -/
import Derived.Test.YtdmcjomcbhdcbaaLb
namespace Go.Proofs.Ytdmcjomcbhdcbaa
open Go.RowKit Go.Maps

/-- What the pure drive keeps besides its bounds. -/
structure Drv.Good (S : Drv) : Prop where
  small : S.Small
  now : Full S.now
  kept : Full S.kept
  safe : ∀ i, (S.body i).safe ≤ S.len i

theorem Dr.below {w w' : World} {p : Nat} {S : Drv} {F : Nat → Prop} (h : Dr w p S F) (hb : Below w.heap.size w w') : Dr w' p S F :=
  h.keep (Touch.of_below (F := fun _ => False) hb) fun _ _ h => h

theorem image_length {S : Drv} (hS : S.Small) : S.image.length ≤ 2199023254000 ∧ S.safes.length ≤ 2199023254000 := by
  unfold Drv.image Drv.safes
  rw [List.length_map, List.length_map, dnames_length, dnames_length]
  exact ⟨hS.now, hS.kept⟩

set_option maxHeartbeats 1000000 in
theorem level_any (p1 p2 : Nat) (S : Drv) (F1 F2 : Nat → Prop) (w : World) (h1 : Dr w p1 S F1) (h2 : Dr w p2 S F2) (hG : S.Good) :
    Calls Try.prog 38 #[.pointer (some ⟨p1, 0, none⟩), .pointer (some ⟨p2, 0, none⟩)] w fun e w' => e = .returned (.bool true) ∧ Below w.heap.size w w' := by
  have HG := Lib.hid hG
  have H1 := Lib.hid h1
  have H2 := Lib.hid h2
  have HL := Lib.hid (image_length hG.small)
  clear h1 h2 hG
  go_enter Try.func38, Try.ntmps38
  go_wp2_with fail
  obtain ⟨a1, hd1⟩ := H1.out
  refine (image_any p1 S a1 F1 w hd1 HG.out.small HG.out.now).mono ?_
  rintro e w1 ⟨v1, rfl, hf1, hb1⟩
  have HF1 := Lib.hid hf1
  have HB1 := Lib.hid hb1
  clear hf1 hb1 hd1
  go_wp2_with fail
  obtain ⟨a2, hd2⟩ := H2.out.below HB1.out
  refine (image_any p2 S a2 F2 w1 hd2 HG.out.small HG.out.now).mono ?_
  rintro e w2 ⟨v2, rfl, hf2, hb2⟩
  have HF2 := Lib.hid hf2
  have HB2 : Hid (Below w.heap.size w w2) := Lib.hid (HB1.out.trans (hb2.mono HB1.out.size))
  have HF12 := Lib.hid (HF1.out.below hb2)
  clear hf2 hb2 hd2
  go_wp2_with fail
  refine (files_any v1 v2 S.image S.image _ _ w2 HF12.out HF2.out HL.out.1).mono ?_
  rintro e w3 ⟨rfl, n3, hw3⟩
  have HB3 : Hid (Below w.heap.size w w3) := Lib.hid (by rw [hw3]; exact below_drewN HB2.out n3)
  clear hw3
  rw [show decide (S.image = S.image) = true from decide_eq_true rfl]
  go_wp2_with fail
  obtain ⟨a3, hd3⟩ := H1.out.below HB3.out
  refine (safe_any p1 S a3 F1 w3 hd3 HG.out.small HG.out.kept HG.out.safe).mono ?_
  rintro e w4 ⟨v4, rfl, hf4, hb4⟩
  have HF4 := Lib.hid hf4
  have HB4 : Hid (Below w.heap.size w w4) := Lib.hid (HB3.out.trans (hb4.mono HB3.out.size))
  clear hf4 hb4 hd3
  go_wp2_with fail
  obtain ⟨a4, hd4⟩ := H2.out.below HB4.out
  refine (safe_any p2 S a4 F2 w4 hd4 HG.out.small HG.out.kept HG.out.safe).mono ?_
  rintro e w5 ⟨v5, rfl, hf5, hb5⟩
  have HF5 := Lib.hid hf5
  have HF45 := Lib.hid (HF4.out.below hb5)
  have HB5 : Hid (Below w.heap.size w w5) := Lib.hid (HB4.out.trans (hb5.mono HB4.out.size))
  clear hf5 hb5 hd4
  go_wp2_with fail
  refine (files_any v4 v5 S.safes S.safes _ _ w5 HF45.out HF5.out HL.out.2).mono ?_
  rintro e w6 ⟨rfl, n6, hw6⟩
  have HB6 : Hid (Below w.heap.size w w6) := Lib.hid (by rw [hw6]; exact below_drewN HB5.out n6)
  clear hw6
  rw [show decide (S.safes = S.safes) = true from decide_eq_true rfl]
  go_wp2_with fail
  obtain ⟨a5, hd5⟩ := H1.out.below HB6.out
  refine (pending_any p1 S a5 F1 w6 hd5).mono ?_
  rintro e w7 ⟨rfl, rfl⟩
  go_wp2_with fail
  obtain ⟨a6, hd6⟩ := H2.out.below HB6.out
  refine (pending_any p2 S a6 F2 w6 hd6).mono ?_
  rintro e w7 ⟨rfl, rfl⟩
  go_wp2_with fail
  refine (used_any p1 S a5 F1 w6 hd5).mono ?_
  rintro e w7 ⟨rfl, rfl⟩
  go_wp2_with fail
  refine (used_any p2 S a6 F2 w6 hd6).mono ?_
  rintro e w7 ⟨rfl, rfl⟩
  clear hd5 hd6
  go_wp2
  go_ret
  exact ⟨rfl, HB6.out⟩
end Go.Proofs.Ytdmcjomcbhdcbaa

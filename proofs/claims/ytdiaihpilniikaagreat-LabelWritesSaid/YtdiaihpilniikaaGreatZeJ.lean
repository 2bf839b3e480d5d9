/- LabelWrites: the walk. -/
import Derived.Test.YtdiaihpilniikaaGreatM26
namespace Go.Proofs.YtdiaihpilniikaaGreat
open Go.RowKit Go.Maps

set_option maxRecDepth 100000 in
set_option maxHeartbeats 8000000 in
theorem labelWrites_big (hs aw : Bool) (A B : Option Addr) (n c m d : Nat) (a0 a1 a2 a3 a4 a5 a6 a7 : UInt8) (n0 n1 n2 n3 n4 : Int) (w : World) (hn : 1048545 < n) :
    Calls Tryz.prog 4 #[.agg #[.bool hs, .slice A n c, .int .u8 (a0.toNat : Int), .int .u8 (a1.toNat : Int), .int .u8 (a2.toNat : Int), .int .u8 (a3.toNat : Int), .int .u8 (a4.toNat : Int), .int .u8 (a5.toNat : Int), .int .u8 (a6.toNat : Int), .int .u8 (a7.toNat : Int), .int .i64 n0, .int .i64 n1, .int .i64 n2, .int .i64 n3, .int .i64 n4, .slice B m d, .bool aw]] w fun e w' => e = .returned (.bool true) ∧ Below w.heap.size w w' := by
  have h1 : (1048545 : Int) < (n : Int) := by omega
  go_enter Tryz.func4, Tryz.ntmps4
  go_wp2
  go_ret
  exact ⟨rfl, (Below.refl _ w).alloc (Nat.le_refl _) _⟩


set_option maxRecDepth 100000 in
set_option maxHeartbeats 40000000 in
theorem labelWrites_may (hs aw : Bool) (A B : Option Addr) (n c m d : Nat) (bs : List UInt8) (l : List (Int × Int)) (lb : Lab) (hlb : lb.Wf) (a0 a1 a2 a3 a4 a5 a6 a7 : UInt8) (n0 n1 n2 n3 n4 : Int) (hag : labV lb = .agg #[.int .u8 (a0.toNat : Int), .int .u8 (a1.toNat : Int), .int .u8 (a2.toNat : Int), .int .u8 (a3.toNat : Int), .int .u8 (a4.toNat : Int), .int .u8 (a5.toNat : Int), .int .u8 (a6.toNat : Int), .int .u8 (a7.toNat : Int), .int .i64 n0, .int .i64 n1, .int .i64 n2, .int .i64 n3, .int .i64 n4]) (w : World) (hr : Reads w w.heap.size 1 A n (bs.map B8)) (hpl : Reads w w.heap.size 2 B m (planCells l)) (hm : m * 16 ≤ 140737488351232) (hn : n ≤ 1048545) (hmay : lb.may = 0) :
    Calls Tryz.prog 4 #[.agg #[.bool hs, .slice A n c, .int .u8 (a0.toNat : Int), .int .u8 (a1.toNat : Int), .int .u8 (a2.toNat : Int), .int .u8 (a3.toNat : Int), .int .u8 (a4.toNat : Int), .int .u8 (a5.toNat : Int), .int .u8 (a6.toNat : Int), .int .u8 (a7.toNat : Int), .int .i64 n0, .int .i64 n1, .int .i64 n2, .int .i64 n3, .int .i64 n4, .slice B m d, .bool aw]] w fun e w' => e = .returned (.bool true) ∧ Below w.heap.size w w' := by
  have h1 : ¬(1048545 : Int) < (n : Int) := by omega
  have hlen : bs.length = n := by have := hr.1; simpa using this
  have HI := Lib.hid (stand_inv hs bs (by omega))
  have HROOM := Lib.hid (stand_room hs bs)
  have HLL : Hid (l.length ≤ 8796093021952) := Lib.hid (by have := hpl.1; rw [planCells_length] at this; omega)
  have HR := Lib.hid hr
  have HPL := Lib.hid hpl
  have HM := Lib.hid hm
  have HN : Hid (n ≤ 1048576) := Lib.hid (by omega)
  have HWF := Lib.hid hlb
  have HAG := Lib.hid hag
  obtain ⟨S, hS⟩ : ∃ S, S = standDrv hs bs := ⟨_, rfl⟩
  have HS := Lib.hid hS
  rw [← hS] at HI HROOM
  obtain ⟨X, hX⟩ : ∃ X, X = armed l aw := ⟨_, rfl⟩
  have HX := Lib.hid hX
  have HXO : Hid (X.Okn 0) := Lib.hid (by rw [hX]; exact armed_okn l aw HLL.out)
  clear hn
  have HMAY := Lib.hid hmay
  obtain ⟨X', S', x, hw⟩ : ∃ X' S' x, awrite X S [108] lb.bytes = (X', S', x) := ⟨_, _, _, rfl⟩
  have HW := Lib.hid hw
  have HK0 : Hid (Kept X S 0 1 1048576) := Lib.hid ⟨HXO.out, HI.out, HROOM.out⟩
  have HI2 : Hid (S'.Inv 6) := Lib.hid (by
    have h := awrite_kept HK0.out [108] lb.bytes (by decide)
    rw [hw] at h
    exact h.drv)
  have HBL : Hid (lb.bytes.length = 31) := Lib.hid (lb.bytes_length hlb.st)
  clear hw
  clear hmay
  obtain ⟨sv, hsv⟩ : ∃ sv : Value, sv = .agg #[.bool hs, .slice A n c, .int .u8 (a0.toNat : Int), .int .u8 (a1.toNat : Int), .int .u8 (a2.toNat : Int), .int .u8 (a3.toNat : Int), .int .u8 (a4.toNat : Int), .int .u8 (a5.toNat : Int), .int .u8 (a6.toNat : Int), .int .u8 (a7.toNat : Int), .int .i64 n0, .int .i64 n1, .int .i64 n2, .int .i64 n3, .int .i64 n4, .slice B m d, .bool aw] := ⟨_, rfl⟩
  have HLD : Hid (∀ V, Blk V w.heap.size 30 #[.bool hs, .slice A n c, .int .u8 (a0.toNat : Int), .int .u8 (a1.toNat : Int), .int .u8 (a2.toNat : Int), .int .u8 (a3.toNat : Int), .int .u8 (a4.toNat : Int), .int .u8 (a5.toNat : Int), .int .u8 (a6.toNat : Int), .int .u8 (a7.toNat : Int), .int .i64 n0, .int .i64 n1, .int .i64 n2, .int .i64 n3, .int .i64 n4, .slice B m d, .bool aw] → (loadVar 30 ⟨w.heap.size, 0, none⟩).run Tryz.prog V = .ok sv V) := Lib.hid fun V hV => by
    rw [hsv]; exact load_stand hV rfl
  have HLO : Hid (∀ V, Below w.heap.size w V → Calls Tryz.prog 6 #[sv] V fun e w' => ∃ p, e = .returned (.pointer (some ⟨p, 0, none⟩)) ∧ Drb w' V.heap.size p S ∧ Below V.heap.size V w') := Lib.hid fun V hV => by
    rw [hsv, HS.out]
    exact loaded_any hs aw A B n c m d bs a0 a1 a2 a3 a4 a5 a6 a7 n0 n1 n2 n3 n4 V ((HR.out.below hV).more hV.size) HN.out
  have HSV := Lib.hid hsv
  clear hr hpl hm hlen hS hX hsv hlb hag
  obtain ⟨lv, hlv⟩ : ∃ lv, lv = labV lb := ⟨_, rfl⟩
  have HLV := Lib.hid hlv
  have HLM : Hid (∀ V, Blk V w.heap.size 30 #[.bool hs, .slice A n c, .int .u8 (a0.toNat : Int), .int .u8 (a1.toNat : Int), .int .u8 (a2.toNat : Int), .int .u8 (a3.toNat : Int), .int .u8 (a4.toNat : Int), .int .u8 (a5.toNat : Int), .int .u8 (a6.toNat : Int), .int .u8 (a7.toNat : Int), .int .i64 n0, .int .i64 n1, .int .i64 n2, .int .i64 n3, .int .i64 n4, .slice B m d, .bool aw] → (loadVar 27 ⟨w.heap.size, 2, none⟩).run Tryz.prog V = .ok lv V) := Lib.hid fun V hV => by
    have e : labCells lb = #[.int .u8 (a0.toNat : Int), .int .u8 (a1.toNat : Int), .int .u8 (a2.toNat : Int), .int .u8 (a3.toNat : Int), .int .u8 (a4.toNat : Int), .int .u8 (a5.toNat : Int), .int .u8 (a6.toNat : Int), .int .u8 (a7.toNat : Int), .int .i64 n0, .int .i64 n1, .int .i64 n2, .int .i64 n3, .int .i64 n4] := Value.agg.inj HAG.out
    have hV' : Blk V w.heap.size 30 ([Value.bool hs, Value.slice A n c] ++ (labCells lb).toList ++ [Value.slice B m d, Value.bool aw]).toArray := by rw [e]; exact hV
    rw [hlv]; exact load_mine lb HWF.out.st _ _ _ _ hV'
  clear hlv
  go_enter Tryz.func4, Tryz.ntmps4
  go_wp2_with ((with_reducible refine wpList_load_at rfl 27 (.tmp 14) rfl ⟨w.heap.size, 2, none⟩ ?_ lv ?_ ?_); rfl; exact HLM.out _ (Blk.new w _ _))
  obtain ⟨Wa, hWa⟩ : ∃ Wa, Wa = w.alloc (.cells #[.bool hs, .slice A n c, .int .u8 (a0.toNat : Int), .int .u8 (a1.toNat : Int), .int .u8 (a2.toNat : Int), .int .u8 (a3.toNat : Int), .int .u8 (a4.toNat : Int), .int .u8 (a5.toNat : Int), .int .u8 (a6.toNat : Int), .int .u8 (a7.toNat : Int), .int .i64 n0, .int .i64 n1, .int .i64 n2, .int .i64 n3, .int .i64 n4, .slice B m d, .bool aw] 30) := ⟨_, rfl⟩
  rw [← hWa]
  have KBa : Hid (Blk Wa w.heap.size 30 #[.bool hs, .slice A n c, .int .u8 (a0.toNat : Int), .int .u8 (a1.toNat : Int), .int .u8 (a2.toNat : Int), .int .u8 (a3.toNat : Int), .int .u8 (a4.toNat : Int), .int .u8 (a5.toNat : Int), .int .u8 (a6.toNat : Int), .int .u8 (a7.toNat : Int), .int .i64 n0, .int .i64 n1, .int .i64 n2, .int .i64 n3, .int .i64 n4, .slice B m d, .bool aw]) := Lib.hid (by rw [hWa]; exact Blk.new _ _ _)
  have HBWa : Hid (Below w.heap.size w Wa) := Lib.hid (by rw [hWa]; exact (Below.refl _ w).alloc (Nat.le_refl _) _)
  have hza : w.heap.size < Wa.heap.size := KBa.out.lt
  clear hWa
  generalize (Value.agg #[.bool hs, .slice A n c, .int .u8 (a0.toNat : Int), .int .u8 (a1.toNat : Int), .int .u8 (a2.toNat : Int), .int .u8 (a3.toNat : Int), .int .u8 (a4.toNat : Int), .int .u8 (a5.toNat : Int), .int .u8 (a6.toNat : Int), .int .u8 (a7.toNat : Int), .int .i64 n0, .int .i64 n1, .int .i64 n2, .int .i64 n3, .int .i64 n4, .slice B m d, .bool aw]) = sv0
  have hrenc := (show Calls Tryz.prog 16 #[labV lb] Wa fun e w' => ∃ WV, e = .returned (.tuple #[WV, .int .i64 0]) ∧ (∃ A2 c2, WV = .slice A2 31 c2 ∧ 31 ≤ c2 ∧ w'.ownsRow Wa.heap.size 5 1 (.slice A2 31 c2) 31 (lb.bytes.map B8)) ∧ Below Wa.heap.size Wa w' from (refencode_ok lb HWF.out HMAY.out Wa).mono fun e w' ⟨u, he, ho, hb⟩ => by obtain ⟨A2, c2, rfl, hle⟩ := own_shape ho; exact ⟨_, he, ⟨A2, c2, rfl, hle, ho⟩, hb⟩)
  rw [← HLV.out] at hrenc
  have HRENC := Lib.hid hrenc
  clear hrenc
  refine HRENC.out.mono ?_
  rintro e W0 ⟨WV, rfl, hwo, hbe⟩
  have HWO := Lib.hid hwo
  have KB0 := Lib.hid (KBa.out.below hbe hza)
  have HBW0 : Hid (Below w.heap.size w W0) := Lib.hid (HBWa.out.trans (hbe.mono (by omega)))
  have hz0 : w.heap.size < W0.heap.size := KB0.out.lt
  clear hwo hbe
  go_wp2_with ((with_reducible refine wpList_load_at rfl 30 (.tmp 1) rfl ⟨w.heap.size, 0, none⟩ ?_ sv ?_ ?_); rfl; exact HLD.out _ KB0.out)
  refine (HLO.out W0 HBW0.out).mono ?_
  rintro e w1 ⟨p1, rfl, hd1, hb1⟩
  have HWB : Hid (∀ V, Below W0.heap.size W0 V → Below w.heap.size w V) := Lib.hid fun V hV => HBW0.out.trans (hV.mono (by omega))
  have HPR : Hid (∀ V, Below W0.heap.size W0 V → Reads V V.heap.size 2 B m (planCells l)) := Lib.hid fun V hV => (HPL.out.below (HWB.out V hV)).more (by have := (HWB.out V hV).size; omega)
  have HNF : Hid (∀ (V : World) (F : Nat → Prop), (∀ k, F k → W0.heap.size ≤ k ∧ k < V.heap.size) → 0 < m → ∀ ad, B = some ad → ¬F ad.block) := Lib.hid fun V F hF h0 ad hB hf => by
    obtain ⟨ad', e, hlt, _⟩ := HPL.out.2 h0
    rw [hB] at e
    have e' := Option.some.inj e
    subst e'
    have := hF _ hf; omega
  have HB1 : Hid (Below W0.heap.size W0 w1) := Lib.hid hb1
  have hz1 : W0.heap.size ≤ w1.heap.size := by have := hb1.size; omega
  have K1 := Lib.hid (KB0.out.below hb1 KB0.out.lt)
  have HD1 := Lib.hid hd1
  clear hd1 hb1
  go_wp2_with fail
  refine (wnewb_any W0.heap.size p1 S w1 hz1 HD1.out).mono ?_
  rintro e w2 ⟨q1, rfl, hwd2, hb2⟩
  have HWD2 := Lib.hid hwd2
  have HB2 : Hid (Below W0.heap.size W0 w2) := Lib.hid (HB1.out.trans (hb2.mono hz1))
  have hz2 : W0.heap.size ≤ w2.heap.size := by have := hb2.size; omega
  have K2 := Lib.hid (K1.out.below hb2 K1.out.lt)
  clear hwd2 hb2
  go_wp2_with ((with_reducible refine wpList_load_at rfl 30 (.tmp 1) rfl ⟨w.heap.size, 0, none⟩ ?_ sv ?_ ?_); rfl; exact HLD.out _ K2.out)
  refine (HLO.out w2 (HWB.out w2 HB2.out)).mono ?_
  rintro e w3 ⟨p2, rfl, hd3, hb3⟩
  have HD3 := Lib.hid hd3
  have HB3 := Lib.hid hb3
  have hz3 := hb3.size
  clear hd3 hb3
  go_wp2_with fail
  refine (wnewb_any w2.heap.size p2 S w3 hz3 HD3.out).mono ?_
  rintro e w4 ⟨q2, rfl, hwd4, hb4⟩
  have hb24 := HB3.out.trans (hb4.mono hz3)
  have HP4 := Lib.hid (Pair.of hz2 HWD2.out hb24 hwd4)
  have HB4 : Hid (Below W0.heap.size W0 w4) := Lib.hid (HB2.out.trans (hb24.mono hz2))
  have hz4 : W0.heap.size ≤ w4.heap.size := by have := hb24.size; omega
  clear hwd4 hb4 hb24 hz3
  go_wp2_with fail
  refine (known_any w4).mono ?_
  rintro e w5 ⟨rfl, hb5⟩
  have HP5 := Lib.hid (HP4.out.below hb5)
  have HB5 : Hid (Below W0.heap.size W0 w5) := Lib.hid (HB4.out.trans (hb5.mono hz4))
  have hz5 : W0.heap.size ≤ w5.heap.size := by have := hb5.size; omega
  have K5 := Lib.hid (KB0.out.below HB5.out KB0.out.lt)
  clear hb5
  have y15 : w5.cell? ⟨w.heap.size, 15, none⟩ = some (.slice B m d) := K5.out.cell 15
  go_wp2_with fail
  refine (HP5.out.first hz5 (E := fun e _ => e = .returned (.tuple #[])) (Y := Wnd.new.arm l) (T := S) fun F hF hFb => (warm_any q1 p1 Wnd.new S F B m d l w5 hF (HPR.out w5 HB5.out) (HNF.out w5 F hFb) HM.out)).mono ?_
  rintro e w6 ⟨rfl, hp6, hb6⟩
  have HP6 := Lib.hid hp6
  have HB6 := Lib.hid (HB5.out.trans hb6)
  have hz6 : W0.heap.size ≤ w6.heap.size := by have := hb6.size; omega
  have K6 := Lib.hid (KB0.out.below HB6.out KB0.out.lt)
  clear hp6 hb6 y15
  have y15 : w6.cell? ⟨w.heap.size, 15, none⟩ = some (.slice B m d) := K6.out.cell 15
  go_wp2_with fail
  refine (HP6.out.second hz6 (E := fun e _ => e = .returned (.tuple #[])) (Y := Wnd.new.arm l) (T := S) fun F hF hFb => (warm_any q2 p2 Wnd.new S F B m d l w6 hF (HPR.out w6 HB6.out) (HNF.out w6 F hFb) HM.out)).mono ?_
  rintro e w7 ⟨rfl, hp7, hb7⟩
  have HP7 := Lib.hid hp7
  have HB7 := Lib.hid (HB6.out.trans hb7)
  have hz7 : W0.heap.size ≤ w7.heap.size := by have := hb7.size; omega
  have K7 := Lib.hid (KB0.out.below HB7.out KB0.out.lt)
  clear hp7 hb7 y15
  have y16 : w7.cell? ⟨w.heap.size, 16, none⟩ = some (.bool aw) := K7.out.cell 16
  go_wp2_with fail
  refine (HP7.out.first hz7 (E := fun e _ => e = .returned (.tuple #[])) (Y := X) (T := S) fun F hF _ => by rw [HX.out]; exact woffline_any q1 p1 (Wnd.new.arm l) S F aw w7 hF).mono ?_
  rintro e w8 ⟨rfl, hp8, hb8⟩
  have HP8 := Lib.hid hp8
  have HB8 := Lib.hid (HB7.out.trans hb8)
  have hz8 : W0.heap.size ≤ w8.heap.size := by have := hb8.size; omega
  have K8 := Lib.hid (KB0.out.below HB8.out KB0.out.lt)
  clear hp8 hb8 y16
  have y16 : w8.cell? ⟨w.heap.size, 16, none⟩ = some (.bool aw) := K8.out.cell 16
  go_wp2_with fail
  refine (HP8.out.second hz8 (E := fun e _ => e = .returned (.tuple #[])) (Y := X) (T := S) fun F hF _ => by rw [HX.out]; exact woffline_any q2 p2 (Wnd.new.arm l) S F aw w8 hF).mono ?_
  rintro e w9 ⟨rfl, hp9, hb9⟩
  have HP9 := Lib.hid hp9
  have HB9 := Lib.hid (HB8.out.trans hb9)
  have hz9 : W0.heap.size ≤ w9.heap.size := by have := hb9.size; omega
  have K9 := Lib.hid (KB0.out.below HB9.out KB0.out.lt)
  have HSM := Lib.hid (HI.out.small (by decide))
  clear hp9 hb9 y16
  have hHWR := (HP9.out.first hz9 (E := fun e _ => e = .returned (.int .i64 x)) (Y := X') (T := S') fun F hF hFb => lwritew_ok q1 p1 X S F lb HWF.out HMAY.out w9 0 1 1048576 hF (fun k hk => (hFb k hk).2) HK0.out (by decide) (by decide) (by decide) X' S' x HW.out)
  rw [← HLV.out] at hHWR
  have HWR := Lib.hid hHWR
  clear hHWR
  go_wp2_with ((with_reducible refine wpList_load_at rfl 27 (.tmp 58) rfl ⟨w.heap.size, 2, none⟩ ?_ lv ?_ ?_); rfl; exact HLM.out _ K9.out)
  refine HWR.out.mono ?_
  rintro e w10 ⟨rfl, hp10, hb10⟩
  have HP10 := Lib.hid hp10
  have HB10 := Lib.hid (HB9.out.trans hb10)
  have hz10 : W0.heap.size ≤ w10.heap.size := by have := hb10.size; omega
  obtain ⟨A2, c2, rfl, hle2, ho2⟩ := HWO.out
  -- the bytes lie below all that the wounds have, above the box
  have HAW := Lib.hid (HP10.out.second hz10 (E := fun e _ => e = .returned (.int .i64 x)) (Y := X') (T := S') fun F hF hFb => by
    have rd : ∀ V, Touch F w10 V → Reads V V.heap.size 1 A2 lb.bytes.length (lb.bytes.map B8) := fun V hV => by
      have hbv := HB10.out.trans (hV.below hz10 fun k hk => (hFb k hk).1)
      rw [HBL.out]
      exact ((Reads.of_own ho2).below hbv).more hbv.size
    have na : ∀ ad, A2 = some ad → ad.block < w10.heap.size ∧ ¬F ad.block := fun ad hA => by
      obtain ⟨g', cap', hv, hb1, hb2⟩ := ho2.form (by decide)
      injection hv with e1
      rw [hA] at e1
      injection e1 with e1
      subst e1
      exact ⟨Nat.lt_of_lt_of_le hb2 hz10, fun hf => absurd (hFb _ hf).1 (Nat.not_le.2 hb2)⟩
    have h := awrite_any q2 p2 X S F ⟨#[108]⟩ A2 c2 lb.bytes w10 0 1 1048576 hF (fun k hk => (hFb k hk).2) (look_wound q2) (by decide) rd na (by rw [HBL.out]; exact hle2) (by rw [HBL.out]; decide) HK0.out (by decide) (by decide) (by decide) X' S' x HW.out
    rw [HBL.out] at h
    exact h)
  clear hp10 hb10 ho2
  go_wp2_with fail
  refine HAW.out.mono ?_
  rintro e WW ⟨rfl, hpw, hbw⟩
  have HBW : Hid (Below W0.heap.size W0 WW) := Lib.hid (HB10.out.trans hbw)
  obtain ⟨F1, F2, hA, hBq, hF1, hF2, hne⟩ := hpw.ex
  have HA := Lib.hid hA
  have HB := Lib.hid hBq
  clear hpw hbw hA hBq hF1 hF2 hne
  have HB14 : Hid (Below w.heap.size w WW) := Lib.hid (HWB.out WW HBW.out)
  have HCA := Lib.hid (calls_any q1 _ X' F1 WW HA.out.wn)
  have HCB := Lib.hid (calls_any q2 _ X' F2 WW HB.out.wn)
  have HLVL := Lib.hid (level_any p1 p2 S' F1 F2 WW HA.out.dr HB.out.dr ⟨HI2.out.small (by decide), HI2.out.fnow, HI2.out.fkept, HI2.out.safe⟩)
  have hq20 : WW.cell? ⟨q2, 0, none⟩ = some (.pointer (some ⟨p2, 0, none⟩)) := head_cell HB.out.wn
  obtain ⟨cq, hcq⟩ : ∃ cq, cq = X'.calls := ⟨_, rfl⟩
  rw [← hcq] at HCA HCB
  clear hcq
  have tok : True := trivial
  go_wp2_with (first
    | (go_at_call 14; have _t := tok; clear tok; refine HCA.out.mono ?_; rintro e w' ⟨rfl, rfl⟩)
    | (go_at_call 14; refine HCB.out.mono ?_; rintro e w' ⟨rfl, rfl⟩)
    | (go_at_call 15; refine HLVL.out.mono ?_; rintro e w14 ⟨rfl, hb14⟩; have HB15 := Lib.hid hb14; clear hb14))
  go_ret
  exact ⟨rfl, HB14.out.trans (HB15.out.mono HB14.out.size)⟩


set_option maxRecDepth 100000 in
set_option maxHeartbeats 40000000 in
theorem labelWrites_not (hs aw : Bool) (A B : Option Addr) (n c m d : Nat) (bs : List UInt8) (l : List (Int × Int)) (lb : Lab) (hlb : lb.Wf) (a0 a1 a2 a3 a4 a5 a6 a7 : UInt8) (n0 n1 n2 n3 n4 : Int) (hag : labV lb = .agg #[.int .u8 (a0.toNat : Int), .int .u8 (a1.toNat : Int), .int .u8 (a2.toNat : Int), .int .u8 (a3.toNat : Int), .int .u8 (a4.toNat : Int), .int .u8 (a5.toNat : Int), .int .u8 (a6.toNat : Int), .int .u8 (a7.toNat : Int), .int .i64 n0, .int .i64 n1, .int .i64 n2, .int .i64 n3, .int .i64 n4]) (w : World) (hr : Reads w w.heap.size 1 A n (bs.map B8)) (hpl : Reads w w.heap.size 2 B m (planCells l)) (hm : m * 16 ≤ 140737488351232) (hn : n ≤ 1048545) (hmay : lb.may ≠ 0) :
    Calls Tryz.prog 4 #[.agg #[.bool hs, .slice A n c, .int .u8 (a0.toNat : Int), .int .u8 (a1.toNat : Int), .int .u8 (a2.toNat : Int), .int .u8 (a3.toNat : Int), .int .u8 (a4.toNat : Int), .int .u8 (a5.toNat : Int), .int .u8 (a6.toNat : Int), .int .u8 (a7.toNat : Int), .int .i64 n0, .int .i64 n1, .int .i64 n2, .int .i64 n3, .int .i64 n4, .slice B m d, .bool aw]] w fun e w' => e = .returned (.bool true) ∧ Below w.heap.size w w' := by
  have h1 : ¬(1048545 : Int) < (n : Int) := by omega
  have hlen : bs.length = n := by have := hr.1; simpa using this
  have HI := Lib.hid (stand_inv hs bs (by omega))
  have HROOM := Lib.hid (stand_room hs bs)
  have HLL : Hid (l.length ≤ 8796093021952) := Lib.hid (by have := hpl.1; rw [planCells_length] at this; omega)
  have HR := Lib.hid hr
  have HPL := Lib.hid hpl
  have HM := Lib.hid hm
  have HN : Hid (n ≤ 1048576) := Lib.hid (by omega)
  have HWF := Lib.hid hlb
  have HAG := Lib.hid hag
  obtain ⟨S, hS⟩ : ∃ S, S = standDrv hs bs := ⟨_, rfl⟩
  have HS := Lib.hid hS
  rw [← hS] at HI HROOM
  obtain ⟨X, hX⟩ : ∃ X, X = armed l aw := ⟨_, rfl⟩
  have HX := Lib.hid hX
  have HXO : Hid (X.Okn 0) := Lib.hid (by rw [hX]; exact armed_okn l aw HLL.out)
  clear hn
  obtain ⟨x, hx⟩ : ∃ x, x = lb.may := ⟨_, rfl⟩
  have HX2 := Lib.hid hx
  have HMAY : Hid (lb.may ≠ 0) := Lib.hid hmay
  have hxe : (x == 0) = false := by rw [hx]; simp [hmay]
  have HI2 : Hid (S.Inv 6) := Lib.hid (HI.out.mono (by decide) (by rw [HROOM.out]; decide))
  obtain ⟨S', hS'⟩ : ∃ S', S' = S := ⟨_, rfl⟩
  obtain ⟨X', hX'⟩ : ∃ X', X' = X := ⟨_, rfl⟩
  rw [← hS'] at HI2
  have HSE := Lib.hid hS'
  have HXE := Lib.hid hX'
  clear hx hmay hS' hX'
  obtain ⟨sv, hsv⟩ : ∃ sv : Value, sv = .agg #[.bool hs, .slice A n c, .int .u8 (a0.toNat : Int), .int .u8 (a1.toNat : Int), .int .u8 (a2.toNat : Int), .int .u8 (a3.toNat : Int), .int .u8 (a4.toNat : Int), .int .u8 (a5.toNat : Int), .int .u8 (a6.toNat : Int), .int .u8 (a7.toNat : Int), .int .i64 n0, .int .i64 n1, .int .i64 n2, .int .i64 n3, .int .i64 n4, .slice B m d, .bool aw] := ⟨_, rfl⟩
  have HLD : Hid (∀ V, Blk V w.heap.size 30 #[.bool hs, .slice A n c, .int .u8 (a0.toNat : Int), .int .u8 (a1.toNat : Int), .int .u8 (a2.toNat : Int), .int .u8 (a3.toNat : Int), .int .u8 (a4.toNat : Int), .int .u8 (a5.toNat : Int), .int .u8 (a6.toNat : Int), .int .u8 (a7.toNat : Int), .int .i64 n0, .int .i64 n1, .int .i64 n2, .int .i64 n3, .int .i64 n4, .slice B m d, .bool aw] → (loadVar 30 ⟨w.heap.size, 0, none⟩).run Tryz.prog V = .ok sv V) := Lib.hid fun V hV => by
    rw [hsv]; exact load_stand hV rfl
  have HLO : Hid (∀ V, Below w.heap.size w V → Calls Tryz.prog 6 #[sv] V fun e w' => ∃ p, e = .returned (.pointer (some ⟨p, 0, none⟩)) ∧ Drb w' V.heap.size p S ∧ Below V.heap.size V w') := Lib.hid fun V hV => by
    rw [hsv, HS.out]
    exact loaded_any hs aw A B n c m d bs a0 a1 a2 a3 a4 a5 a6 a7 n0 n1 n2 n3 n4 V ((HR.out.below hV).more hV.size) HN.out
  have HSV := Lib.hid hsv
  clear hr hpl hm hlen hS hX hsv hlb hag
  obtain ⟨lv, hlv⟩ : ∃ lv, lv = labV lb := ⟨_, rfl⟩
  have HLV := Lib.hid hlv
  have HLM : Hid (∀ V, Blk V w.heap.size 30 #[.bool hs, .slice A n c, .int .u8 (a0.toNat : Int), .int .u8 (a1.toNat : Int), .int .u8 (a2.toNat : Int), .int .u8 (a3.toNat : Int), .int .u8 (a4.toNat : Int), .int .u8 (a5.toNat : Int), .int .u8 (a6.toNat : Int), .int .u8 (a7.toNat : Int), .int .i64 n0, .int .i64 n1, .int .i64 n2, .int .i64 n3, .int .i64 n4, .slice B m d, .bool aw] → (loadVar 27 ⟨w.heap.size, 2, none⟩).run Tryz.prog V = .ok lv V) := Lib.hid fun V hV => by
    have e : labCells lb = #[.int .u8 (a0.toNat : Int), .int .u8 (a1.toNat : Int), .int .u8 (a2.toNat : Int), .int .u8 (a3.toNat : Int), .int .u8 (a4.toNat : Int), .int .u8 (a5.toNat : Int), .int .u8 (a6.toNat : Int), .int .u8 (a7.toNat : Int), .int .i64 n0, .int .i64 n1, .int .i64 n2, .int .i64 n3, .int .i64 n4] := Value.agg.inj HAG.out
    have hV' : Blk V w.heap.size 30 ([Value.bool hs, Value.slice A n c] ++ (labCells lb).toList ++ [Value.slice B m d, Value.bool aw]).toArray := by rw [e]; exact hV
    rw [hlv]; exact load_mine lb HWF.out.st _ _ _ _ hV'
  clear hlv
  go_enter Tryz.func4, Tryz.ntmps4
  go_wp2_with ((with_reducible refine wpList_load_at rfl 27 (.tmp 14) rfl ⟨w.heap.size, 2, none⟩ ?_ lv ?_ ?_); rfl; exact HLM.out _ (Blk.new w _ _))
  obtain ⟨Wa, hWa⟩ : ∃ Wa, Wa = w.alloc (.cells #[.bool hs, .slice A n c, .int .u8 (a0.toNat : Int), .int .u8 (a1.toNat : Int), .int .u8 (a2.toNat : Int), .int .u8 (a3.toNat : Int), .int .u8 (a4.toNat : Int), .int .u8 (a5.toNat : Int), .int .u8 (a6.toNat : Int), .int .u8 (a7.toNat : Int), .int .i64 n0, .int .i64 n1, .int .i64 n2, .int .i64 n3, .int .i64 n4, .slice B m d, .bool aw] 30) := ⟨_, rfl⟩
  rw [← hWa]
  have KBa : Hid (Blk Wa w.heap.size 30 #[.bool hs, .slice A n c, .int .u8 (a0.toNat : Int), .int .u8 (a1.toNat : Int), .int .u8 (a2.toNat : Int), .int .u8 (a3.toNat : Int), .int .u8 (a4.toNat : Int), .int .u8 (a5.toNat : Int), .int .u8 (a6.toNat : Int), .int .u8 (a7.toNat : Int), .int .i64 n0, .int .i64 n1, .int .i64 n2, .int .i64 n3, .int .i64 n4, .slice B m d, .bool aw]) := Lib.hid (by rw [hWa]; exact Blk.new _ _ _)
  have HBWa : Hid (Below w.heap.size w Wa) := Lib.hid (by rw [hWa]; exact (Below.refl _ w).alloc (Nat.le_refl _) _)
  have hza : w.heap.size < Wa.heap.size := KBa.out.lt
  clear hWa
  generalize (Value.agg #[.bool hs, .slice A n c, .int .u8 (a0.toNat : Int), .int .u8 (a1.toNat : Int), .int .u8 (a2.toNat : Int), .int .u8 (a3.toNat : Int), .int .u8 (a4.toNat : Int), .int .u8 (a5.toNat : Int), .int .u8 (a6.toNat : Int), .int .u8 (a7.toNat : Int), .int .i64 n0, .int .i64 n1, .int .i64 n2, .int .i64 n3, .int .i64 n4, .slice B m d, .bool aw]) = sv0
  have hrenc := (show Calls Tryz.prog 16 #[labV lb] Wa fun e w' => ∃ WV, e = .returned (.tuple #[WV, .int .i64 x]) ∧ WV = .slice none 0 0 ∧ Below Wa.heap.size Wa w' from (refencode_bad lb HWF.out HMAY.out Wa).mono fun e w' ⟨he, hb⟩ => ⟨_, by rw [he, HX2.out], rfl, hb⟩)
  rw [← HLV.out] at hrenc
  have HRENC := Lib.hid hrenc
  clear hrenc
  refine HRENC.out.mono ?_
  rintro e W0 ⟨WV, rfl, hwo, hbe⟩
  have HWO := Lib.hid hwo
  have KB0 := Lib.hid (KBa.out.below hbe hza)
  have HBW0 : Hid (Below w.heap.size w W0) := Lib.hid (HBWa.out.trans (hbe.mono (by omega)))
  have hz0 : w.heap.size < W0.heap.size := KB0.out.lt
  clear hwo hbe
  go_wp2_with ((with_reducible refine wpList_load_at rfl 30 (.tmp 1) rfl ⟨w.heap.size, 0, none⟩ ?_ sv ?_ ?_); rfl; exact HLD.out _ KB0.out)
  refine (HLO.out W0 HBW0.out).mono ?_
  rintro e w1 ⟨p1, rfl, hd1, hb1⟩
  have HWB : Hid (∀ V, Below W0.heap.size W0 V → Below w.heap.size w V) := Lib.hid fun V hV => HBW0.out.trans (hV.mono (by omega))
  have HPR : Hid (∀ V, Below W0.heap.size W0 V → Reads V V.heap.size 2 B m (planCells l)) := Lib.hid fun V hV => (HPL.out.below (HWB.out V hV)).more (by have := (HWB.out V hV).size; omega)
  have HNF : Hid (∀ (V : World) (F : Nat → Prop), (∀ k, F k → W0.heap.size ≤ k ∧ k < V.heap.size) → 0 < m → ∀ ad, B = some ad → ¬F ad.block) := Lib.hid fun V F hF h0 ad hB hf => by
    obtain ⟨ad', e, hlt, _⟩ := HPL.out.2 h0
    rw [hB] at e
    have e' := Option.some.inj e
    subst e'
    have := hF _ hf; omega
  have HB1 : Hid (Below W0.heap.size W0 w1) := Lib.hid hb1
  have hz1 : W0.heap.size ≤ w1.heap.size := by have := hb1.size; omega
  have K1 := Lib.hid (KB0.out.below hb1 KB0.out.lt)
  have HD1 := Lib.hid hd1
  clear hd1 hb1
  go_wp2_with fail
  refine (wnewb_any W0.heap.size p1 S w1 hz1 HD1.out).mono ?_
  rintro e w2 ⟨q1, rfl, hwd2, hb2⟩
  have HWD2 := Lib.hid hwd2
  have HB2 : Hid (Below W0.heap.size W0 w2) := Lib.hid (HB1.out.trans (hb2.mono hz1))
  have hz2 : W0.heap.size ≤ w2.heap.size := by have := hb2.size; omega
  have K2 := Lib.hid (K1.out.below hb2 K1.out.lt)
  clear hwd2 hb2
  go_wp2_with ((with_reducible refine wpList_load_at rfl 30 (.tmp 1) rfl ⟨w.heap.size, 0, none⟩ ?_ sv ?_ ?_); rfl; exact HLD.out _ K2.out)
  refine (HLO.out w2 (HWB.out w2 HB2.out)).mono ?_
  rintro e w3 ⟨p2, rfl, hd3, hb3⟩
  have HD3 := Lib.hid hd3
  have HB3 := Lib.hid hb3
  have hz3 := hb3.size
  clear hd3 hb3
  go_wp2_with fail
  refine (wnewb_any w2.heap.size p2 S w3 hz3 HD3.out).mono ?_
  rintro e w4 ⟨q2, rfl, hwd4, hb4⟩
  have hb24 := HB3.out.trans (hb4.mono hz3)
  have HP4 := Lib.hid (Pair.of hz2 HWD2.out hb24 hwd4)
  have HB4 : Hid (Below W0.heap.size W0 w4) := Lib.hid (HB2.out.trans (hb24.mono hz2))
  have hz4 : W0.heap.size ≤ w4.heap.size := by have := hb24.size; omega
  clear hwd4 hb4 hb24 hz3
  go_wp2_with fail
  refine (known_any w4).mono ?_
  rintro e w5 ⟨rfl, hb5⟩
  have HP5 := Lib.hid (HP4.out.below hb5)
  have HB5 : Hid (Below W0.heap.size W0 w5) := Lib.hid (HB4.out.trans (hb5.mono hz4))
  have hz5 : W0.heap.size ≤ w5.heap.size := by have := hb5.size; omega
  have K5 := Lib.hid (KB0.out.below HB5.out KB0.out.lt)
  clear hb5
  have y15 : w5.cell? ⟨w.heap.size, 15, none⟩ = some (.slice B m d) := K5.out.cell 15
  go_wp2_with fail
  refine (HP5.out.first hz5 (E := fun e _ => e = .returned (.tuple #[])) (Y := Wnd.new.arm l) (T := S) fun F hF hFb => (warm_any q1 p1 Wnd.new S F B m d l w5 hF (HPR.out w5 HB5.out) (HNF.out w5 F hFb) HM.out)).mono ?_
  rintro e w6 ⟨rfl, hp6, hb6⟩
  have HP6 := Lib.hid hp6
  have HB6 := Lib.hid (HB5.out.trans hb6)
  have hz6 : W0.heap.size ≤ w6.heap.size := by have := hb6.size; omega
  have K6 := Lib.hid (KB0.out.below HB6.out KB0.out.lt)
  clear hp6 hb6 y15
  have y15 : w6.cell? ⟨w.heap.size, 15, none⟩ = some (.slice B m d) := K6.out.cell 15
  go_wp2_with fail
  refine (HP6.out.second hz6 (E := fun e _ => e = .returned (.tuple #[])) (Y := Wnd.new.arm l) (T := S) fun F hF hFb => (warm_any q2 p2 Wnd.new S F B m d l w6 hF (HPR.out w6 HB6.out) (HNF.out w6 F hFb) HM.out)).mono ?_
  rintro e w7 ⟨rfl, hp7, hb7⟩
  have HP7 := Lib.hid hp7
  have HB7 := Lib.hid (HB6.out.trans hb7)
  have hz7 : W0.heap.size ≤ w7.heap.size := by have := hb7.size; omega
  have K7 := Lib.hid (KB0.out.below HB7.out KB0.out.lt)
  clear hp7 hb7 y15
  have y16 : w7.cell? ⟨w.heap.size, 16, none⟩ = some (.bool aw) := K7.out.cell 16
  go_wp2_with fail
  refine (HP7.out.first hz7 (E := fun e _ => e = .returned (.tuple #[])) (Y := X) (T := S) fun F hF _ => by rw [HX.out]; exact woffline_any q1 p1 (Wnd.new.arm l) S F aw w7 hF).mono ?_
  rintro e w8 ⟨rfl, hp8, hb8⟩
  have HP8 := Lib.hid hp8
  have HB8 := Lib.hid (HB7.out.trans hb8)
  have hz8 : W0.heap.size ≤ w8.heap.size := by have := hb8.size; omega
  have K8 := Lib.hid (KB0.out.below HB8.out KB0.out.lt)
  clear hp8 hb8 y16
  have y16 : w8.cell? ⟨w.heap.size, 16, none⟩ = some (.bool aw) := K8.out.cell 16
  go_wp2_with fail
  refine (HP8.out.second hz8 (E := fun e _ => e = .returned (.tuple #[])) (Y := X) (T := S) fun F hF _ => by rw [HX.out]; exact woffline_any q2 p2 (Wnd.new.arm l) S F aw w8 hF).mono ?_
  rintro e w9 ⟨rfl, hp9, hb9⟩
  have HP9 := Lib.hid hp9
  have HB9 := Lib.hid (HB8.out.trans hb9)
  have hz9 : W0.heap.size ≤ w9.heap.size := by have := hb9.size; omega
  have K9 := Lib.hid (KB0.out.below HB9.out KB0.out.lt)
  have HSM := Lib.hid (HI.out.small (by decide))
  clear hp9 hb9 y16
  have hHWR := lwritew_bad q1 lb HWF.out HMAY.out w9
  rw [← HLV.out, ← HX2.out] at hHWR
  have HWR := Lib.hid hHWR
  clear hHWR
  go_wp2_with ((with_reducible refine wpList_load_at rfl 27 (.tmp 58) rfl ⟨w.heap.size, 2, none⟩ ?_ lv ?_ ?_); rfl; exact HLM.out _ K9.out)
  refine HWR.out.mono ?_
  rintro e WW ⟨rfl, hbw⟩
  have HBW : Hid (Below W0.heap.size W0 WW) := Lib.hid (HB9.out.trans (hbw.mono hz9))
  obtain ⟨F1, F2, hA, hBq, hF1, hF2, hne⟩ := (HP9.out.below hbw).ex
  rw [← HSE.out, ← HXE.out] at hA hBq
  have HA := Lib.hid hA
  have HB := Lib.hid hBq
  clear hbw hA hBq hF1 hF2 hne
  have HB14 : Hid (Below w.heap.size w WW) := Lib.hid (HWB.out WW HBW.out)
  have HCA := Lib.hid (calls_any q1 _ X' F1 WW HA.out.wn)
  have HCB := Lib.hid (calls_any q2 _ X' F2 WW HB.out.wn)
  have HLVL := Lib.hid (level_any p1 p2 S' F1 F2 WW HA.out.dr HB.out.dr ⟨HI2.out.small (by decide), HI2.out.fnow, HI2.out.fkept, HI2.out.safe⟩)
  have hq20 : WW.cell? ⟨q2, 0, none⟩ = some (.pointer (some ⟨p2, 0, none⟩)) := head_cell HB.out.wn
  obtain ⟨cq, hcq⟩ : ∃ cq, cq = X'.calls := ⟨_, rfl⟩
  rw [← hcq] at HCA HCB
  clear hcq
  have tok : True := trivial
  go_wp2_with (first
    | (go_at_call 14; have _t := tok; clear tok; refine HCA.out.mono ?_; rintro e w' ⟨rfl, rfl⟩)
    | (go_at_call 14; refine HCB.out.mono ?_; rintro e w' ⟨rfl, rfl⟩)
    | (go_at_call 15; refine HLVL.out.mono ?_; rintro e w14 ⟨rfl, hb14⟩; have HB15 := Lib.hid hb14; clear hb14))
  go_ret
  exact ⟨rfl, HB14.out.trans (HB15.out.mono HB14.out.size)⟩


theorem labelWrites_walk (hs aw : Bool) (A B : Option Addr) (n c m d : Nat) (bs : List UInt8) (l : List (Int × Int)) (lb : Lab) (hlb : lb.Wf) (a0 a1 a2 a3 a4 a5 a6 a7 : UInt8) (hag : labV lb = .agg #[.int .u8 (a0.toNat : Int), .int .u8 (a1.toNat : Int), .int .u8 (a2.toNat : Int), .int .u8 (a3.toNat : Int), .int .u8 (a4.toNat : Int), .int .u8 (a5.toNat : Int), .int .u8 (a6.toNat : Int), .int .u8 (a7.toNat : Int), .int .i64 lb.k, .int .i64 lb.m, .int .i64 lb.b, .int .i64 lb.i, .int .i64 lb.e]) (w : World) (hr : Reads w w.heap.size 1 A n (bs.map B8)) (hnc : n ≤ c) (hpl : Reads w w.heap.size 2 B m (planCells l)) (hm : m * 16 ≤ 140737488351232) :
    Calls Tryz.prog 4 #[.agg #[.bool hs, .slice A n c, .int .u8 (a0.toNat : Int), .int .u8 (a1.toNat : Int), .int .u8 (a2.toNat : Int), .int .u8 (a3.toNat : Int), .int .u8 (a4.toNat : Int), .int .u8 (a5.toNat : Int), .int .u8 (a6.toNat : Int), .int .u8 (a7.toNat : Int), .int .i64 lb.k, .int .i64 lb.m, .int .i64 lb.b, .int .i64 lb.i, .int .i64 lb.e, .slice B m d, .bool aw]] w fun e w' => e = .returned (.bool true) ∧ Below w.heap.size w w' := by
  by_cases hn : n ≤ 1048545
  · by_cases hmay : lb.may = 0
    · exact labelWrites_may hs aw A B n c m d bs l lb hlb a0 a1 a2 a3 a4 a5 a6 a7 _ _ _ _ _ hag w hr hpl hm hn hmay
    · exact labelWrites_not hs aw A B n c m d bs l lb hlb a0 a1 a2 a3 a4 a5 a6 a7 _ _ _ _ _ hag w hr hpl hm hn hmay
  · exact labelWrites_big hs aw A B n c m d a0 a1 a2 a3 a4 a5 a6 a7 _ _ _ _ _ w (by omega)
end Go.Proofs.YtdiaihpilniikaaGreat

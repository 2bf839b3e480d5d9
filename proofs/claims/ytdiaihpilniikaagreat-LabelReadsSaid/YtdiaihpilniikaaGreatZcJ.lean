/- LabelReads: the walk. -/
import Derived.Test.YtdiaihpilniikaaGreatM26
namespace Go.Proofs.YtdiaihpilniikaaGreat
open Go.RowKit Go.Maps

set_option maxRecDepth 100000 in
set_option maxHeartbeats 8000000 in
theorem labelReads_big (hs aw : Bool) (A B : Option Addr) (n c m d : Nat) (a0 a1 a2 a3 a4 a5 a6 a7 : UInt8) (n0 n1 n2 n3 n4 : Int) (w : World) (hn : 1048576 < n) :
    Calls Tryz.prog 3 #[.agg #[.bool hs, .slice A n c, .int .u8 (a0.toNat : Int), .int .u8 (a1.toNat : Int), .int .u8 (a2.toNat : Int), .int .u8 (a3.toNat : Int), .int .u8 (a4.toNat : Int), .int .u8 (a5.toNat : Int), .int .u8 (a6.toNat : Int), .int .u8 (a7.toNat : Int), .int .i64 n0, .int .i64 n1, .int .i64 n2, .int .i64 n3, .int .i64 n4, .slice B m d, .bool aw]] w fun e w' => e = .returned (.bool true) ∧ Below w.heap.size w w' := by
  have h1 : (1048576 : Int) < (n : Int) := by omega
  go_enter Tryz.func3, Tryz.ntmps3
  go_wp2
  go_ret
  exact ⟨rfl, (Below.refl _ w).alloc (Nat.le_refl _) _⟩

set_option maxRecDepth 100000 in
set_option maxHeartbeats 40000000 in
theorem labelReads_small (hs aw : Bool) (A B : Option Addr) (n c m d : Nat) (bs : List UInt8) (l : List (Int × Int)) (lb : Lab) (hlb : lb.Wf) (a0 a1 a2 a3 a4 a5 a6 a7 : UInt8) (n0 n1 n2 n3 n4 : Int) (hag : labV lb = .agg #[.int .u8 (a0.toNat : Int), .int .u8 (a1.toNat : Int), .int .u8 (a2.toNat : Int), .int .u8 (a3.toNat : Int), .int .u8 (a4.toNat : Int), .int .u8 (a5.toNat : Int), .int .u8 (a6.toNat : Int), .int .u8 (a7.toNat : Int), .int .i64 n0, .int .i64 n1, .int .i64 n2, .int .i64 n3, .int .i64 n4]) (w : World) (hr : Reads w w.heap.size 1 A n (bs.map B8)) (hpl : Reads w w.heap.size 2 B m (planCells l)) (hm : m * 16 ≤ 140737488351232) (hn : n ≤ 1048576) :
    Calls Tryz.prog 3 #[.agg #[.bool hs, .slice A n c, .int .u8 (a0.toNat : Int), .int .u8 (a1.toNat : Int), .int .u8 (a2.toNat : Int), .int .u8 (a3.toNat : Int), .int .u8 (a4.toNat : Int), .int .u8 (a5.toNat : Int), .int .u8 (a6.toNat : Int), .int .u8 (a7.toNat : Int), .int .i64 n0, .int .i64 n1, .int .i64 n2, .int .i64 n3, .int .i64 n4, .slice B m d, .bool aw]] w fun e w' => e = .returned (.bool true) ∧ Below w.heap.size w w' := by
  have h1 : ¬(1048576 : Int) < (n : Int) := by omega
  have hlen : bs.length = n := by have := hr.1; simpa using this
  have HI := Lib.hid (stand_inv hs bs (by omega))
  have HROOM := Lib.hid (stand_room hs bs)
  have HLL : Hid (l.length ≤ 8796093021952) := Lib.hid (by have := hpl.1; rw [planCells_length] at this; omega)
  have HR := Lib.hid hr
  have HPL := Lib.hid hpl
  have HM := Lib.hid hm
  have HN : Hid (n ≤ 1048576) := Lib.hid (by omega)
  have HWF := Lib.hid hlb
  have HAG := Lib.hid hag
  obtain ⟨S, hS⟩ : ∃ S, S = standDrv hs bs := ⟨_, rfl⟩
  have HS := Lib.hid hS
  rw [← hS] at HI HROOM
  obtain ⟨X, hX⟩ : ∃ X, X = armed l aw := ⟨_, rfl⟩
  have HX := Lib.hid hX
  have HXO : Hid (X.Okn 0) := Lib.hid (by rw [hX]; exact armed_okn l aw HLL.out)
  obtain ⟨X', rb, x, hw⟩ : ∃ X' rb x, wread X (S.read [108]) = (X', rb, x) := ⟨_, _, _, rfl⟩
  have HW := Lib.hid hw
  have HRB : Hid (rb.length ≤ 2147483648) := Lib.hid (by
    have h2 : rb = (wread X (S.read [108])).2.1 := by rw [hw]
    rw [h2]
    unfold wread
    split
    · show (S.read [108]).1.length ≤ _
      unfold Drv.read
      split
      · exact Nat.zero_le _
      · rename_i i _ _; exact (HI.out.small (by decide)).len i
    · exact Nat.zero_le _)
  clear hw hn
  obtain ⟨sv, hsv⟩ : ∃ sv : Value, sv = .agg #[.bool hs, .slice A n c, .int .u8 (a0.toNat : Int), .int .u8 (a1.toNat : Int), .int .u8 (a2.toNat : Int), .int .u8 (a3.toNat : Int), .int .u8 (a4.toNat : Int), .int .u8 (a5.toNat : Int), .int .u8 (a6.toNat : Int), .int .u8 (a7.toNat : Int), .int .i64 n0, .int .i64 n1, .int .i64 n2, .int .i64 n3, .int .i64 n4, .slice B m d, .bool aw] := ⟨_, rfl⟩
  have HLD : Hid (∀ V, Blk V w.heap.size 30 #[.bool hs, .slice A n c, .int .u8 (a0.toNat : Int), .int .u8 (a1.toNat : Int), .int .u8 (a2.toNat : Int), .int .u8 (a3.toNat : Int), .int .u8 (a4.toNat : Int), .int .u8 (a5.toNat : Int), .int .u8 (a6.toNat : Int), .int .u8 (a7.toNat : Int), .int .i64 n0, .int .i64 n1, .int .i64 n2, .int .i64 n3, .int .i64 n4, .slice B m d, .bool aw] → (loadVar 30 ⟨w.heap.size, 0, none⟩).run Tryz.prog V = .ok sv V) := Lib.hid fun V hV => by
    rw [hsv]; exact load_stand hV rfl
  have HLO : Hid (∀ V, Below w.heap.size w V → Calls Tryz.prog 6 #[sv] V fun e w' => ∃ p, e = .returned (.pointer (some ⟨p, 0, none⟩)) ∧ Drb w' V.heap.size p S ∧ Below V.heap.size V w') := Lib.hid fun V hV => by
    rw [hsv, HS.out]
    exact loaded_any hs aw A B n c m d bs a0 a1 a2 a3 a4 a5 a6 a7 n0 n1 n2 n3 n4 V ((HR.out.below hV).more hV.size) HN.out
  have HSV := Lib.hid hsv
  clear hr hpl hm hlen hS hX hsv hlb hag
  go_enter Tryz.func3, Tryz.ntmps3
  go_wp2_with ((with_reducible refine wpList_load_at rfl 30 (.tmp 1) rfl ⟨w.heap.size, 0, none⟩ ?_ sv ?_ ?_); rfl; exact HLD.out _ (Blk.new w _ _))
  obtain ⟨W0, hW0⟩ : ∃ W0, W0 = w.alloc (.cells #[.bool hs, .slice A n c, .int .u8 (a0.toNat : Int), .int .u8 (a1.toNat : Int), .int .u8 (a2.toNat : Int), .int .u8 (a3.toNat : Int), .int .u8 (a4.toNat : Int), .int .u8 (a5.toNat : Int), .int .u8 (a6.toNat : Int), .int .u8 (a7.toNat : Int), .int .i64 n0, .int .i64 n1, .int .i64 n2, .int .i64 n3, .int .i64 n4, .slice B m d, .bool aw] 30) := ⟨_, rfl⟩
  rw [← hW0]
  have KB0 : Hid (Blk W0 w.heap.size 30 #[.bool hs, .slice A n c, .int .u8 (a0.toNat : Int), .int .u8 (a1.toNat : Int), .int .u8 (a2.toNat : Int), .int .u8 (a3.toNat : Int), .int .u8 (a4.toNat : Int), .int .u8 (a5.toNat : Int), .int .u8 (a6.toNat : Int), .int .u8 (a7.toNat : Int), .int .i64 n0, .int .i64 n1, .int .i64 n2, .int .i64 n3, .int .i64 n4, .slice B m d, .bool aw]) := Lib.hid (by rw [hW0]; exact Blk.new _ _ _)
  have HBW0 : Hid (Below w.heap.size w W0) := Lib.hid (by rw [hW0]; exact (Below.refl _ w).alloc (Nat.le_refl _) _)
  have hz0 : w.heap.size < W0.heap.size := KB0.out.lt
  clear hW0
  generalize (Value.agg #[.bool hs, .slice A n c, .int .u8 (a0.toNat : Int), .int .u8 (a1.toNat : Int), .int .u8 (a2.toNat : Int), .int .u8 (a3.toNat : Int), .int .u8 (a4.toNat : Int), .int .u8 (a5.toNat : Int), .int .u8 (a6.toNat : Int), .int .u8 (a7.toNat : Int), .int .i64 n0, .int .i64 n1, .int .i64 n2, .int .i64 n3, .int .i64 n4, .slice B m d, .bool aw]) = sv0
  refine (HLO.out W0 HBW0.out).mono ?_
  rintro e w1 ⟨p1, rfl, hd1, hb1⟩
  have HWB : Hid (∀ V, Below W0.heap.size W0 V → Below w.heap.size w V) := Lib.hid fun V hV => HBW0.out.trans (hV.mono (by omega))
  have HPR : Hid (∀ V, Below W0.heap.size W0 V → Reads V V.heap.size 2 B m (planCells l)) := Lib.hid fun V hV => (HPL.out.below (HWB.out V hV)).more (by have := (HWB.out V hV).size; omega)
  have HNF : Hid (∀ (V : World) (F : Nat → Prop), (∀ k, F k → W0.heap.size ≤ k ∧ k < V.heap.size) → 0 < m → ∀ ad, B = some ad → ¬F ad.block) := Lib.hid fun V F hF h0 ad hB hf => by
    obtain ⟨ad', e, hlt, _⟩ := HPL.out.2 h0
    rw [hB] at e
    have e' := Option.some.inj e
    subst e'
    have := hF _ hf; omega
  have HB1 : Hid (Below W0.heap.size W0 w1) := Lib.hid hb1
  have hz1 : W0.heap.size ≤ w1.heap.size := by have := hb1.size; omega
  have K1 := Lib.hid (KB0.out.below hb1 KB0.out.lt)
  have HD1 := Lib.hid hd1
  clear hd1 hb1
  go_wp2_with fail
  refine (wnewb_any W0.heap.size p1 S w1 hz1 HD1.out).mono ?_
  rintro e w2 ⟨q1, rfl, hwd2, hb2⟩
  have HWD2 := Lib.hid hwd2
  have HB2 : Hid (Below W0.heap.size W0 w2) := Lib.hid (HB1.out.trans (hb2.mono hz1))
  have hz2 : W0.heap.size ≤ w2.heap.size := by have := hb2.size; omega
  have K2 := Lib.hid (K1.out.below hb2 K1.out.lt)
  clear hwd2 hb2
  go_wp2_with ((with_reducible refine wpList_load_at rfl 30 (.tmp 1) rfl ⟨w.heap.size, 0, none⟩ ?_ sv ?_ ?_); rfl; exact HLD.out _ K2.out)
  refine (HLO.out w2 (HWB.out w2 HB2.out)).mono ?_
  rintro e w3 ⟨p2, rfl, hd3, hb3⟩
  have HD3 := Lib.hid hd3
  have HB3 := Lib.hid hb3
  have hz3 := hb3.size
  clear hd3 hb3
  go_wp2_with fail
  refine (wnewb_any w2.heap.size p2 S w3 hz3 HD3.out).mono ?_
  rintro e w4 ⟨q2, rfl, hwd4, hb4⟩
  have hb24 := HB3.out.trans (hb4.mono hz3)
  have HP4 := Lib.hid (Pair.of hz2 HWD2.out hb24 hwd4)
  have HB4 : Hid (Below W0.heap.size W0 w4) := Lib.hid (HB2.out.trans (hb24.mono hz2))
  have hz4 : W0.heap.size ≤ w4.heap.size := by have := hb24.size; omega
  clear hwd4 hb4 hb24 hz3
  go_wp2_with fail
  refine (known_any w4).mono ?_
  rintro e w5 ⟨rfl, hb5⟩
  have HP5 := Lib.hid (HP4.out.below hb5)
  have HB5 : Hid (Below W0.heap.size W0 w5) := Lib.hid (HB4.out.trans (hb5.mono hz4))
  have hz5 : W0.heap.size ≤ w5.heap.size := by have := hb5.size; omega
  have K5 := Lib.hid (KB0.out.below HB5.out KB0.out.lt)
  clear hb5
  have y15 : w5.cell? ⟨w.heap.size, 15, none⟩ = some (.slice B m d) := K5.out.cell 15
  go_wp2_with fail
  refine (HP5.out.first hz5 (E := fun e _ => e = .returned (.tuple #[])) (Y := Wnd.new.arm l) (T := S) fun F hF hFb => (warm_any q1 p1 Wnd.new S F B m d l w5 hF (HPR.out w5 HB5.out) (HNF.out w5 F hFb) HM.out)).mono ?_
  rintro e w6 ⟨rfl, hp6, hb6⟩
  have HP6 := Lib.hid hp6
  have HB6 := Lib.hid (HB5.out.trans hb6)
  have hz6 : W0.heap.size ≤ w6.heap.size := by have := hb6.size; omega
  have K6 := Lib.hid (KB0.out.below HB6.out KB0.out.lt)
  clear hp6 hb6 y15
  have y15 : w6.cell? ⟨w.heap.size, 15, none⟩ = some (.slice B m d) := K6.out.cell 15
  go_wp2_with fail
  refine (HP6.out.second hz6 (E := fun e _ => e = .returned (.tuple #[])) (Y := Wnd.new.arm l) (T := S) fun F hF hFb => (warm_any q2 p2 Wnd.new S F B m d l w6 hF (HPR.out w6 HB6.out) (HNF.out w6 F hFb) HM.out)).mono ?_
  rintro e w7 ⟨rfl, hp7, hb7⟩
  have HP7 := Lib.hid hp7
  have HB7 := Lib.hid (HB6.out.trans hb7)
  have hz7 : W0.heap.size ≤ w7.heap.size := by have := hb7.size; omega
  have K7 := Lib.hid (KB0.out.below HB7.out KB0.out.lt)
  clear hp7 hb7 y15
  have y16 : w7.cell? ⟨w.heap.size, 16, none⟩ = some (.bool aw) := K7.out.cell 16
  go_wp2_with fail
  refine (HP7.out.first hz7 (E := fun e _ => e = .returned (.tuple #[])) (Y := X) (T := S) fun F hF _ => by rw [HX.out]; exact woffline_any q1 p1 (Wnd.new.arm l) S F aw w7 hF).mono ?_
  rintro e w8 ⟨rfl, hp8, hb8⟩
  have HP8 := Lib.hid hp8
  have HB8 := Lib.hid (HB7.out.trans hb8)
  have hz8 : W0.heap.size ≤ w8.heap.size := by have := hb8.size; omega
  have K8 := Lib.hid (KB0.out.below HB8.out KB0.out.lt)
  clear hp8 hb8 y16
  have y16 : w8.cell? ⟨w.heap.size, 16, none⟩ = some (.bool aw) := K8.out.cell 16
  go_wp2_with fail
  refine (HP8.out.second hz8 (E := fun e _ => e = .returned (.tuple #[])) (Y := X) (T := S) fun F hF _ => by rw [HX.out]; exact woffline_any q2 p2 (Wnd.new.arm l) S F aw w8 hF).mono ?_
  rintro e w9 ⟨rfl, hp9, hb9⟩
  have HP9 := Lib.hid hp9
  have HB9 := Lib.hid (HB8.out.trans hb9)
  have hz9 : W0.heap.size ≤ w9.heap.size := by have := hb9.size; omega
  have K9 := Lib.hid (KB0.out.below HB9.out KB0.out.lt)
  have HSM := Lib.hid (HI.out.small (by decide))
  clear hp9 hb9 y16
  have HOK : Hid X.Ok := Lib.hid (HXO.out.ok (by decide))
  go_wp2_with fail
  refine (HP9.out.second hz9 (E := fun e w' => ∃ A' c', e = .returned (.tuple #[.slice A' rb.length c', .int .i64 x]) ∧ rb.length ≤ c' ∧ w'.ownsRow w9.heap.size 5 1 (.slice A' rb.length c') rb.length (rb.map B8)) (Y := X') (T := S) fun F hF _ => by
    refine (wread_any q2 p2 X S F nL w9 (by decide) hF HOK.out HSM.out).mono ?_
    rintro e w' ⟨v, he, ho, hwd, ht⟩
    have hr' : wread X (S.read nL.data.toList) = (X', rb, x) := HW.out
    rw [hr'] at he ho hwd
    obtain ⟨A', c', rfl, hle⟩ := own_shape ho
    exact ⟨⟨A', c', he, hle, ho⟩, hwd.mono fun k hk => .inl hk, ht⟩).mono ?_
  rintro e w10 ⟨⟨A', c', rfl, hcc, ho10⟩, hp10, hb10⟩
  have HO10 := Lib.hid ho10
  have HB10 := Lib.hid (HB9.out.trans hb10)
  have hz10 : W0.heap.size ≤ w10.heap.size := by have := hb10.size; omega
  have HCC := Lib.hid hcc
  obtain ⟨F1, F2, hA, hBq, hF1, hF2, hne⟩ := hp10.ex
  have HA := Lib.hid hA
  have HBQ := Lib.hid hBq
  have HF1 := Lib.hid hF1
  have HNE := Lib.hid hne
  clear ho10 hb10 hp10 hA hBq hF1 hF2 hne hcc
  -- what both readings answer
  obtain ⟨lw, hlw⟩ : ∃ lw : Lab, lw = if x = 0 then (Lab.parse rb).1 else Lab.zero := ⟨_, rfl⟩
  obtain ⟨y, hy⟩ : ∃ y : Int, y = if x = 0 then (Lab.parse rb).2 else x := ⟨_, rfl⟩
  have HST : Hid (lw.st.length = 8) := Lib.hid (by rw [hlw]; split; exact parse_st rb; rfl)
  obtain ⟨lv, hlv⟩ : ∃ lv, lv = labV lw := ⟨_, rfl⟩
  have HLV := Lib.hid hlv
  have HEQ : Hid (∀ W, (binOp .eql 27 lv lv).run Tryz.prog W = .ok (.bool true) W) := Lib.hid (by rw [hlv]; exact lab_eql lw HST.out)
  have HEG : Hid (∀ W x y, (eqGuard .eql 27 x y lv lv).run Tryz.prog W = .ok () W) := Lib.hid fun W x y => by rw [hlv]; exact run_eqGuard_agg (P := Tryz.prog) W .eql 27 x y _ _ (by kernel_rfl)
  have HLQ : Hid (∀ Y : World, Below w10.heap.size w10 Y → Calls Tryz.prog 13 #[.iface 33 (.pointer (some ⟨q1, 0, none⟩))] Y fun e w' => e = .returned (.tuple #[lv, .int .i64 y]) ∧ WD w' q1 p1 X' S F1 ∧ Touch F1 Y w') := Lib.hid fun Y hY => by
    have h := lreadw_any q1 p1 X X' S F1 rb x Y (WD.below HA.out hY) (fun k hk => by have := (HF1.out k hk).2; have := hY.size; omega) HOK.out HSM.out HW.out HRB.out
    rw [← hlw, ← hlv, ← hy] at h
    exact h
  have HRP : Hid (x = 0 → ∀ Y, Below w10.heap.size w10 Y → Calls Tryz.prog 12 #[.slice A' rb.length c'] Y fun e w' => e = .returned (.tuple #[lv, .int .i64 y]) ∧ Below Y.heap.size Y w') := Lib.hid fun hx Y hY => by
    have h := refparse_any A' rb.length c' rb Y w10.heap.size ((Reads.of_own HO10.out).below hY) hY.size HCC.out
    rw [hlv, hlw, hy, if_pos hx, if_pos hx]
    exact h
  have HYX : Hid (x ≠ 0 → y = x ∧ lv = .agg #[.int .u8 0, .int .u8 0, .int .u8 0, .int .u8 0, .int .u8 0, .int .u8 0, .int .u8 0, .int .u8 0, .int .i64 0, .int .i64 0, .int .i64 0, .int .i64 0, .int .i64 0]) := Lib.hid fun hx => by
    rw [hy, hlv, hlw, if_neg hx, if_neg hx]; exact ⟨rfl, zero_lab⟩
  clear hlw hy hlv
  by_cases hx : x = 0
  · have HRP0 := Lib.hid (HRP.out hx)
    subst hx
    go_wp2_with fail
    refine (HRP0.out _ ((Below.refl _ _).alloc (Nat.le_refl _) _)).mono ?_
    rintro e w11 ⟨rfl, hb11⟩
    have K11 : Hid (Blk w11 w10.heap.size 27 #[.int .u8 0, .int .u8 0, .int .u8 0, .int .u8 0, .int .u8 0, .int .u8 0, .int .u8 0, .int .u8 0, .int .i64 0, .int .i64 0, .int .i64 0, .int .i64 0, .int .i64 0]) := Lib.hid ((Blk.new w10 27 #[.int .u8 0, .int .u8 0, .int .u8 0, .int .u8 0, .int .u8 0, .int .u8 0, .int .u8 0, .int .u8 0, .int .i64 0, .int .i64 0, .int .i64 0, .int .i64 0, .int .i64 0]).below hb11 (by rw [alloc_size]; omega))
    have HX11 : Hid (Below w10.heap.size w10 w11) := Lib.hid (((Below.refl _ _).alloc (Nat.le_refl _) _).trans (hb11.mono (by rw [alloc_size]; omega)))
    obtain ⟨Y, hrun, hblk, ht, hsz⟩ := store_lab lw HST.out K11.out rfl
    rw [← HLV.out] at hrun
    have HRUN := Lib.hid hrun
    have HKY := Lib.hid hblk
    have HYB : Hid (Below w10.heap.size w10 Y) := Lib.hid (HX11.out.trans (ht.below HX11.out.size fun k hk => by omega))
    clear hb11 hrun hblk ht hsz
    go_wp2_with ((with_reducible refine wpList_store_at rfl 27 (.tmp 8) (.tmp 62) rfl ⟨w10.heap.size, 0, none⟩ ?_ lv ?_ Y ?_ ?_); rfl; rfl; exact HRUN.out)
    refine (HLQ.out Y HYB.out).mono ?_
    rintro e w13 ⟨rfl, hwd, ht⟩
    have K8 := Lib.hid (HKY.out.touch ht (fun hf => by have := (HF1.out _ hf).2; omega))
    have HB11 : Hid (Below W0.heap.size W0 Y) := Lib.hid (HB10.out.trans (HYB.out.mono hz10))
    have hzY := HYB.out.size
    have hzY2 : W0.heap.size ≤ Y.heap.size := by omega
    have HB13 : Hid (Below w.heap.size w w13) := Lib.hid (HWB.out w13 (HB11.out.trans (ht.below hzY2 fun k hk => (HF1.out k hk).1)))
    have HA13 := Lib.hid hwd
    have HQ13 := Lib.hid (WD.keep (WD.below HBQ.out HYB.out) ht fun k h2 h1 => HNE.out k h1 h2)
    have hz13 := HB13.out.size
    have hg89 : w10.heap.size < w13.heap.size := K8.out.lt
    obtain ⟨Y2, hrun2, hblk2, ht2, hsz2⟩ := store_lab lw HST.out (Blk.new w13 27 #[.int .u8 0, .int .u8 0, .int .u8 0, .int .u8 0, .int .u8 0, .int .u8 0, .int .u8 0, .int .u8 0, .int .i64 0, .int .i64 0, .int .i64 0, .int .i64 0, .int .i64 0]) rfl
    rw [← HLV.out] at hrun2
    have HRUN2 := Lib.hid hrun2
    have HT2 : Hid (Below w13.heap.size w13 Y2) := Lib.hid (((Below.refl _ w13).alloc (Nat.le_refl _) _).trans (ht2.below (by rw [alloc_size]; omega) fun k hk => by omega))
    have HL9 : Hid ((loadVar 27 ⟨w13.heap.size, 0, none⟩).run Tryz.prog Y2 = .ok lv Y2) := Lib.hid (by rw [HLV.out]; exact load_lab lw HST.out hblk2)
    have HL8 : Hid ((loadVar 27 ⟨w10.heap.size, 0, none⟩).run Tryz.prog Y2 = .ok lv Y2) := Lib.hid (by rw [HLV.out]; exact load_lab lw HST.out (K8.out.below HT2.out (by omega)))
    have HCA := Lib.hid (calls_any q1 _ X' F1 Y2 (WD.below HA13.out HT2.out).wn)
    have HCB := Lib.hid (calls_any q2 _ X' F2 Y2 (WD.below HQ13.out HT2.out).wn)
    have HLVL := Lib.hid (level_any p1 p2 S F1 F2 Y2 (WD.below HA13.out HT2.out).dr (WD.below HQ13.out HT2.out).dr ⟨HI.out.small (by decide), HI.out.fnow, HI.out.fkept, HI.out.safe⟩)
    have hq20 : Y2.cell? ⟨q2, 0, none⟩ = some (.pointer (some ⟨p2, 0, none⟩)) := head_cell (WD.below HQ13.out HT2.out).wn
    have hes := HEQ.out
    have heg := HEG.out
    clear hwd ht hrun2 hblk2 ht2 hsz2
    obtain ⟨cq, hcq⟩ : ∃ cq, cq = X'.calls := ⟨_, rfl⟩
    rw [← hcq] at HCA HCB
    clear hcq
    have tok : True := trivial
    go_wp2_with (first
      | ((with_reducible refine wpList_store_at rfl 27 (.tmp 9) (.tmp 68) rfl ⟨w13.heap.size, 0, none⟩ ?_ lv ?_ Y2 ?_ ?_); rfl; rfl; exact HRUN2.out)
      | ((with_reducible refine wpList_load_if 27 (.tmp 9) rfl ?_ ⟨w13.heap.size, 0, none⟩ ?_ lv ?_ ?_); rfl; rfl; exact HL9.out)
      | ((with_reducible refine wpList_load_if 27 (.tmp 8) rfl ?_ ⟨w10.heap.size, 0, none⟩ ?_ lv ?_ ?_); rfl; rfl; exact HL8.out)
      | (go_at_call 14; have _t := tok; clear tok; refine HCA.out.mono ?_; rintro e w' ⟨rfl, rfl⟩)
      | (go_at_call 14; refine HCB.out.mono ?_; rintro e w' ⟨rfl, rfl⟩)
      | (go_at_call 15; refine HLVL.out.mono ?_; rintro e w14 ⟨rfl, hb14⟩; have HB14 := Lib.hid hb14; clear hb14))
    go_ret
    exact ⟨rfl, (HB13.out.trans (HT2.out.mono hz13)).trans (HB14.out.mono (by have := HT2.out.size; omega))⟩
  · obtain ⟨hyx, hlz⟩ := HYX.out hx
    have hxe : (x == 0) = false := by simp [hx]
    subst hyx
    clear hx
    have HLZ := Lib.hid hlz
    clear hlz
    go_wp2_with fail
    obtain ⟨Y, hY⟩ : ∃ Y, Y = w10.alloc (.cells #[.int .u8 0, .int .u8 0, .int .u8 0, .int .u8 0, .int .u8 0, .int .u8 0, .int .u8 0, .int .u8 0, .int .i64 0, .int .i64 0, .int .i64 0, .int .i64 0, .int .i64 0] 27) := ⟨_, rfl⟩
    rw [← hY]
    have HKY : Hid (Blk Y w10.heap.size 27 (labCells lw)) := Lib.hid (by
      have e : labCells lw = #[.int .u8 0, .int .u8 0, .int .u8 0, .int .u8 0, .int .u8 0, .int .u8 0, .int .u8 0, .int .u8 0, .int .i64 0, .int .i64 0, .int .i64 0, .int .i64 0, .int .i64 0] := Value.agg.inj (HLV.out.symm.trans HLZ.out)
      rw [e, hY]; exact Blk.new _ _ _)
    have HYB : Hid (Below w10.heap.size w10 Y) := Lib.hid (by rw [hY]; exact (Below.refl _ _).alloc (Nat.le_refl _) _)
    clear hY
    refine (HLQ.out Y HYB.out).mono ?_
    rintro e w13 ⟨rfl, hwd, ht⟩
    have K8 := Lib.hid (HKY.out.touch ht (fun hf => by have := (HF1.out _ hf).2; omega))
    have HB11 : Hid (Below W0.heap.size W0 Y) := Lib.hid (HB10.out.trans (HYB.out.mono hz10))
    have hzY := HYB.out.size
    have hzY2 : W0.heap.size ≤ Y.heap.size := by omega
    have HB13 : Hid (Below w.heap.size w w13) := Lib.hid (HWB.out w13 (HB11.out.trans (ht.below hzY2 fun k hk => (HF1.out k hk).1)))
    have HA13 := Lib.hid hwd
    have HQ13 := Lib.hid (WD.keep (WD.below HBQ.out HYB.out) ht fun k h2 h1 => HNE.out k h1 h2)
    have hz13 := HB13.out.size
    have hg89 : w10.heap.size < w13.heap.size := K8.out.lt
    obtain ⟨Y2, hrun2, hblk2, ht2, hsz2⟩ := store_lab lw HST.out (Blk.new w13 27 #[.int .u8 0, .int .u8 0, .int .u8 0, .int .u8 0, .int .u8 0, .int .u8 0, .int .u8 0, .int .u8 0, .int .i64 0, .int .i64 0, .int .i64 0, .int .i64 0, .int .i64 0]) rfl
    rw [← HLV.out] at hrun2
    have HRUN2 := Lib.hid hrun2
    have HT2 : Hid (Below w13.heap.size w13 Y2) := Lib.hid (((Below.refl _ w13).alloc (Nat.le_refl _) _).trans (ht2.below (by rw [alloc_size]; omega) fun k hk => by omega))
    have HL9 : Hid ((loadVar 27 ⟨w13.heap.size, 0, none⟩).run Tryz.prog Y2 = .ok lv Y2) := Lib.hid (by rw [HLV.out]; exact load_lab lw HST.out hblk2)
    have HL8 : Hid ((loadVar 27 ⟨w10.heap.size, 0, none⟩).run Tryz.prog Y2 = .ok lv Y2) := Lib.hid (by rw [HLV.out]; exact load_lab lw HST.out (K8.out.below HT2.out (by omega)))
    have HCA := Lib.hid (calls_any q1 _ X' F1 Y2 (WD.below HA13.out HT2.out).wn)
    have HCB := Lib.hid (calls_any q2 _ X' F2 Y2 (WD.below HQ13.out HT2.out).wn)
    have HLVL := Lib.hid (level_any p1 p2 S F1 F2 Y2 (WD.below HA13.out HT2.out).dr (WD.below HQ13.out HT2.out).dr ⟨HI.out.small (by decide), HI.out.fnow, HI.out.fkept, HI.out.safe⟩)
    have hq20 : Y2.cell? ⟨q2, 0, none⟩ = some (.pointer (some ⟨p2, 0, none⟩)) := head_cell (WD.below HQ13.out HT2.out).wn
    have hes := HEQ.out
    have heg := HEG.out
    clear hwd ht hrun2 hblk2 ht2 hsz2
    obtain ⟨cq, hcq⟩ : ∃ cq, cq = X'.calls := ⟨_, rfl⟩
    rw [← hcq] at HCA HCB
    clear hcq
    have tok : True := trivial
    go_wp2_with (first
      | ((with_reducible refine wpList_store_at rfl 27 (.tmp 9) (.tmp 68) rfl ⟨w13.heap.size, 0, none⟩ ?_ lv ?_ Y2 ?_ ?_); rfl; rfl; exact HRUN2.out)
      | ((with_reducible refine wpList_load_if 27 (.tmp 9) rfl ?_ ⟨w13.heap.size, 0, none⟩ ?_ lv ?_ ?_); rfl; rfl; exact HL9.out)
      | ((with_reducible refine wpList_load_if 27 (.tmp 8) rfl ?_ ⟨w10.heap.size, 0, none⟩ ?_ lv ?_ ?_); rfl; rfl; exact HL8.out)
      | (go_at_call 14; have _t := tok; clear tok; refine HCA.out.mono ?_; rintro e w' ⟨rfl, rfl⟩)
      | (go_at_call 14; refine HCB.out.mono ?_; rintro e w' ⟨rfl, rfl⟩)
      | (go_at_call 15; refine HLVL.out.mono ?_; rintro e w14 ⟨rfl, hb14⟩; have HB14 := Lib.hid hb14; clear hb14))
    go_ret
    exact ⟨rfl, (HB13.out.trans (HT2.out.mono hz13)).trans (HB14.out.mono (by have := HT2.out.size; omega))⟩
theorem labelReads_walk (hs aw : Bool) (A B : Option Addr) (n c m d : Nat) (bs : List UInt8) (l : List (Int × Int)) (lb : Lab) (hlb : lb.Wf) (a0 a1 a2 a3 a4 a5 a6 a7 : UInt8) (hag : labV lb = .agg #[.int .u8 (a0.toNat : Int), .int .u8 (a1.toNat : Int), .int .u8 (a2.toNat : Int), .int .u8 (a3.toNat : Int), .int .u8 (a4.toNat : Int), .int .u8 (a5.toNat : Int), .int .u8 (a6.toNat : Int), .int .u8 (a7.toNat : Int), .int .i64 lb.k, .int .i64 lb.m, .int .i64 lb.b, .int .i64 lb.i, .int .i64 lb.e]) (w : World) (hr : Reads w w.heap.size 1 A n (bs.map B8)) (hnc : n ≤ c) (hpl : Reads w w.heap.size 2 B m (planCells l)) (hm : m * 16 ≤ 140737488351232) :
    Calls Tryz.prog 3 #[.agg #[.bool hs, .slice A n c, .int .u8 (a0.toNat : Int), .int .u8 (a1.toNat : Int), .int .u8 (a2.toNat : Int), .int .u8 (a3.toNat : Int), .int .u8 (a4.toNat : Int), .int .u8 (a5.toNat : Int), .int .u8 (a6.toNat : Int), .int .u8 (a7.toNat : Int), .int .i64 lb.k, .int .i64 lb.m, .int .i64 lb.b, .int .i64 lb.i, .int .i64 lb.e, .slice B m d, .bool aw]] w fun e w' => e = .returned (.bool true) ∧ Below w.heap.size w w' := by
  by_cases hn : n ≤ 1048576
  · exact labelReads_small hs aw A B n c m d bs l lb hlb a0 a1 a2 a3 a4 a5 a6 a7 _ _ _ _ _ hag w hr hpl hm hn
  · exact labelReads_big hs aw A B n c m d a0 a1 a2 a3 a4 a5 a6 a7 _ _ _ _ _ w (by omega)
end Go.Proofs.YtdiaihpilniikaaGreat

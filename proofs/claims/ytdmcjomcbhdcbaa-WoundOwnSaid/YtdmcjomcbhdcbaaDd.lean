/- Contract of the drive: a change is made in what stands; it is pending: the walk. -/
import Derived.Test.YtdmcjomcbhdcbaaDc
namespace Go.Proofs.Ytdmcjomcbhdcbaa
open Go.RowKit Go.Maps Go.WideMaps

/-- The world under a name. -/
theorem wp_world {P : Program} {c : Code} {Q : Exit → Act → World → Prop} {a : Act} {W : World} (h : ∀ X, X = W → c.wp P Q a X) : c.wp P Q a W := h W rfl

theorem stepsInfo : (Try.prog.info? 114).map (fun i => (i.zero, i.size, i.bytes)) = some (some (.slice none 0 0), 1, 24) := by kernel_rfl
theorem exit_world {Q : Exit → Act → World → Prop} {e : Exit} {a : Act} {W : World} (h : ∀ X, X = W → Q e a X) : Q e a W := h W rfl

set_option maxHeartbeats 8000000 in
set_option maxRecDepth 100000 in
theorem change_any (p g : Nat) (S : Drv) (addr : List Nat) (F : Nat → Prop) (c : List Stp) (w : World) (hd : DrA w p S addr F) (hb : Blk w g 122 (chgCells addr c).toArray) (hFg : F g)
    (hok : okC addr c) (hc : c.length ≤ 4) (hl : ∀ i, S.len i ≤ 2147483648)
    (hu : -1152921504606846976 ≤ S.used ∧ S.used ≤ 1152921504606846976) (hsz : size S.now ≤ 2199023254000) (hpd : S.pending.length ≤ 2199023254000) :
    Calls Try.prog 75 #[.pointer (some ⟨p, 0, none⟩), .slice (some ⟨g, 0, none⟩) c.length c.length] w fun e w' =>
      e = .returned (.tuple #[]) ∧ DrA w' p (S.change c) addr (grow F w w') ∧ Touch F w w' := by
  obtain ⟨L, rfl, hD, hF⟩ := hd
  have heq := map_there
  obtain ⟨i114, hi114, hz0, hz1, hz2⟩ := info_parts stepsInfo
  have hhead := hD.head
  have q2 : w.cell? ⟨p, 2, none⟩ = some (.map (some L.nowM)) := hhead.cell 2
  have HD := Lib.hid hD; clear hD
  have HOK := Lib.hid hok; clear hok
  have HSZ := Lib.hid hsz; clear hsz
  have HPD := Lib.hid hpd; clear hpd
  have HL := Lib.hid hl; clear hl
  have HU := Lib.hid hu; clear hu
  have HB := Lib.hid hb; clear hb hhead
  generalize hlen : c.length = len at *
  have HLEN := Lib.hid hlen; clear hlen
  go_enter Try.func75, Try.ntmps75
  go_wp2
  go_loopw [22] (fun s wr => ∃ k : Nat, k ≤ len ∧ s = .int .i64 k ∧ DrvAt wr p (S.chAll (c.take k)) L ∧ Touch F w wr ∧ Blk wr g 122 (chgCells L.addr c).toArray) (fun s _ => len - (intOf s).toNat)
  case atStart => exact ⟨0, Nat.zero_le _, rfl, HD.out, Touch.refl _ _, HB.out⟩
  case round =>
    obtain ⟨k, hk, rfl, hdk, htk, hbk⟩ := hrel
    have HTK := Lib.hid htk; clear htk
    have hszr : w.heap.size ≤ wr.heap.size := HTK.out.size
    by_cases hlt : k < len
    · obtain ⟨⟨nm, to⟩, hst⟩ : ∃ s, c[k]? = some s := ⟨c[k]'(by rw [HLEN.out]; exact hlt), List.getElem?_eq_getElem _⟩
      obtain ⟨hnm, hto⟩ := HOK.out _ (List.mem_of_getElem? hst)
      have HS := Lib.hid (show S.chAll (c.take (k + 1)) = (S.chAll (c.take k)).chStp (nm, to) from by
        rw [List.take_add_one, hst, Option.toList_some, Drv.chAll_snoc])
      obtain ⟨c1, c2⟩ := chg_get L.addr c k _ hst
      have x1 : wr.cell? ⟨g, k * 2, none⟩ = some (.string ⟨nm.toArray⟩) := by rw [hbk.cell]; simpa [strV] using c1
      have x2 : wr.cell? ⟨g, k * 2 + 1, none⟩ = some (ptrO L.addr to) := by rw [hbk.cell]; simpa using c2
      obtain ⟨T, hT⟩ : ∃ T, T = S.chAll (c.take k) := ⟨_, rfl⟩
      rw [← hT] at hdk HS
      have hTl : ∀ i, T.len i ≤ 2147483648 := fun i => by rw [hT, Drv.len_same (Drv.chAll_bodies S _).1]; exact HL.out i
      have hTu := Drv.chAll_used S HL.out (c.take k)
      have hkl : (c.take k).length ≤ 4 := by rw [List.length_take]; omega
      have hub : -1152921504606846976 - 8589934592 ≤ T.used ∧ T.used ≤ 1152921504606846976 + 8589934592 := by
        have := HU.out
        rw [← hT] at hTu
        omega
      have HS1 : Hid (size T.now + 1 ≤ 2199023255552) := by
        have h1 := (applyC_tidy (c.take k) HD.out.now.tidy).2
        have h2 := HSZ.out
        rw [hT, Drv.chAll_now]
        show _ ≤ _
        omega
      have HDK := Lib.hid hdk
      have HBK := Lib.hid hbk
      clear c1 c2 hst hTu hkl hdk hbk
      have HTT := Lib.hid hT; clear hT
      have HHTL := Lib.hid hTl; clear hTl
      have hpl : p < wr.heap.size := HDK.out.head.lt
      have h2 : wr.cell? ⟨p, 2, none⟩ = some (.map (some L.nowM)) := HDK.out.head.cell 2
      cases to with
      | none =>
        simp only [ptrO] at x2
        cases hg : dget T.now nm with
        | none =>
          have HG := Lib.hid hg; clear hg
          have hDW : DrvAt (wr.alloc (.cells #[.string ⟨nm.toArray⟩, .pointer none] 122)) p T L := HDK.out.keep fun q hq => Below.heap_alloc _ _ _ (HDK.out.foot_lt hq)
          have hlk : ∀ n, (Instr.lookup 87 (.map (some L.nowM)) (.string ⟨nm.toArray⟩) false).run Try.prog ((wr.alloc (.cells #[.string ⟨nm.toArray⟩, .pointer none] 122)).drewN n) = .ok (ptrO L.addr (dget T.now nm)) ((wr.alloc (.cells #[.string ⟨nm.toArray⟩, .pointer none] 122)).drewN n) :=
            fun n => DirAt.lookup (w := (wr.alloc (.cells #[.string ⟨nm.toArray⟩, .pointer none] 122)).drewN n) hDW.now ⟨nm.toArray⟩ (by simpa [ByteArray.size] using hnm)
          rw [HG.out] at hlk
          simp only [ptrO] at hlk
          have HDW := Lib.hid hDW; clear hDW
          go_wp2
          go_quiet (fail)
          refine exit_world fun X hX => ?_
          have HE0 : Hid (DrvAt X p T L) := by rw [hX]; exact HDW.out.keep fun _ _ => rfl
          have HYB : Hid (Blk X wr.heap.size 122 #[.string ⟨nm.toArray⟩, .pointer none]) := by rw [hX]; exact (Blk.new wr _ _).drewN _
          have y1 : X.cell? ⟨wr.heap.size, 0, none⟩ = some (.string ⟨nm.toArray⟩) := HYB.out.cell 0
          have y2 : X.cell? ⟨wr.heap.size, 1, none⟩ = some (.pointer none) := HYB.out.cell 1
          have hsx : wr.heap.size < X.heap.size := by rw [hX]; simp
          have HTX : Hid (Touch F w X) := by rw [hX]; exact (HTK.out.trans (Touch.alloc _ _)).trans (Touch.drewN _ _)
          have HBX0 : Hid (Blk X g 122 (chgCells L.addr c).toArray) := by rw [hX]; exact (HBK.out.alloc _).drewN _
          have z1 : X.cell? ⟨p, 1, none⟩ = some (.int .i64 T.used) := HE0.out.head.cell 1
          have z1f : X.frozen? ⟨p, 1, none⟩ = false := HE0.out.head.frozen 1
          have z2 : X.cell? ⟨p, 2, none⟩ = some (.map (some L.nowM)) := HE0.out.head.cell 2
          have hpx : p < X.heap.size := HE0.out.head.lt
          clear hX h2 hlk HDW x1 x2
          go_wp2
          refine wp_world fun X1 hX1 => ?_
          have hus : (T.chStp (nm, none)).used = T.used := by
            show T.used - T.lenO (dget T.now nm) + T.lenO none = _
            rw [HG.out]; simp [Drv.lenO]
          have HE : Hid (DrvAt X1 p { T with used := (T.chStp (nm, none)).used } L) := by
            rw [hus, hX1]
            exact HE0.out
          have hlp : wr.heap.size ≠ p := by omega
          have HYB1 : Hid (Blk X1 wr.heap.size 122 #[.string ⟨nm.toArray⟩, .pointer none]) := by
            rw [hX1]
            exact HYB.out
          have v1 : X1.cell? ⟨wr.heap.size, 0, none⟩ = some (.string ⟨nm.toArray⟩) := HYB1.out.cell 0
          have v2 : X1.cell? ⟨wr.heap.size, 1, none⟩ = some (.pointer none) := HYB1.out.cell 1
          have v3 : X1.cell? ⟨p, 2, none⟩ = some (.map (some L.nowM)) := HE.out.head.cell 2
          have hsv : X1.heap.size = X.heap.size := by rw [hX1]
          have hwx1 : wr.heap.size < X1.heap.size := by omega
          have hpx1 : p < X1.heap.size := by omega
          have HTX1 : Hid (Touch F w X1) := by
            rw [hX1]
            exact HTX.out.trans (Touch.refl _ _)
          have hgp : g ≠ p := HBX0.out.ne_ HE0.out.head (by decide)
          have HBX1 : Hid (Blk X1 g 122 (chgCells L.addr c).toArray) := by
            rw [hX1]
            exact HBX0.out
          clear hX1 y1 y2 z1 z1f z2 hus hsv hgp hsx hpx hlp HYB HYB1
          have HDX : Hid (DirAt (X1.alloc (.cells #[.string ⟨nm.toArray⟩, .pointer none] 122)) L.addr L.nowM T.now) := HE.out.now.keep (Below.heap_alloc _ _ _ HE.out.now.lt)
          have HBX : Hid (Blk (X1.alloc (.cells #[.string ⟨nm.toArray⟩, .pointer none] 122)) X1.heap.size 122 (chgCells L.addr [(nm, none)]).toArray) := Blk.new _ _ _
          have HO1 : Hid (okC L.addr [(nm, none)]) := by
            intro s hs; simp at hs; subst hs; exact ⟨hnm, hto⟩
          go_region_with (go_at_call 71; refine (apply_any L.nowM X1.heap.size T.now L.addr [(nm, none)] _ (by exact HDX.out) (by exact HBX.out) HE.out.nodup HO1.out HS1.out).mono ?_; rintro e w2 ⟨rfl, hd2, ht2⟩)
          all_goals (obtain ⟨hz1, hz2, hz3⟩ := ch_close (Y := _) HE.out HTX1.out hF HBX1.out (by first | exact (((Below.refl _ _).alloc (Nat.le_refl _) _).drew) | exact ((((Below.refl _ _).alloc (Nat.le_refl _) _).drew).drew)) hd2 ht2; rw [← HS.out] at hz1; have HZ1 := Lib.hid hz1; have HZ2 := Lib.hid hz2; have HZ3 := Lib.hid hz3; clear hd2 ht2 hz1 hz2 hz3)
          all_goals go_wp2
          all_goals go_roundw
          all_goals first | (case rel => exact ⟨k + 1, by omega, by go_num, HZ1.out, HZ2.out, HZ3.out⟩) | skip
          all_goals (simp [intOf]; omega)
        | some j =>
          have HG := Lib.hid hg; clear hg
          have hDW : DrvAt (wr.alloc (.cells #[.string ⟨nm.toArray⟩, .pointer none] 122)) p T L := HDK.out.keep fun q hq => Below.heap_alloc _ _ _ (HDK.out.foot_lt hq)
          have hlk : ∀ n, (Instr.lookup 87 (.map (some L.nowM)) (.string ⟨nm.toArray⟩) false).run Try.prog ((wr.alloc (.cells #[.string ⟨nm.toArray⟩, .pointer none] 122)).drewN n) = .ok (ptrO L.addr (dget T.now nm)) ((wr.alloc (.cells #[.string ⟨nm.toArray⟩, .pointer none] 122)).drewN n) :=
            fun n => DirAt.lookup (w := (wr.alloc (.cells #[.string ⟨nm.toArray⟩, .pointer none] 122)).drewN n) hDW.now ⟨nm.toArray⟩ (by simpa [ByteArray.size] using hnm)
          rw [HG.out] at hlk
          simp only [ptrO] at hlk
          have HDW := Lib.hid hDW; clear hDW
          go_wp2
          go_quiet (fail)
          refine exit_world fun X hX => ?_
          have HE0 : Hid (DrvAt X p T L) := by rw [hX]; exact HDW.out.keep fun _ _ => rfl
          have HYB : Hid (Blk X wr.heap.size 122 #[.string ⟨nm.toArray⟩, .pointer none]) := by rw [hX]; exact (Blk.new wr _ _).drewN _
          have y1 : X.cell? ⟨wr.heap.size, 0, none⟩ = some (.string ⟨nm.toArray⟩) := HYB.out.cell 0
          have y2 : X.cell? ⟨wr.heap.size, 1, none⟩ = some (.pointer none) := HYB.out.cell 1
          have hsx : wr.heap.size < X.heap.size := by rw [hX]; simp
          have HTX : Hid (Touch F w X) := by rw [hX]; exact (HTK.out.trans (Touch.alloc _ _)).trans (Touch.drewN _ _)
          have HBX0 : Hid (Blk X g 122 (chgCells L.addr c).toArray) := by rw [hX]; exact (HBK.out.alloc _).drewN _
          have z1 : X.cell? ⟨p, 1, none⟩ = some (.int .i64 T.used) := HE0.out.head.cell 1
          have z1f : X.frozen? ⟨p, 1, none⟩ = false := HE0.out.head.frozen 1
          have z2 : X.cell? ⟨p, 2, none⟩ = some (.map (some L.nowM)) := HE0.out.head.cell 2
          have hpx : p < X.heap.size := HE0.out.head.lt
          clear hX h2 hlk HDW x1 x2
          have hjl : j < T.bodies.length := by rw [← HE0.out.la]; exact HE0.out.now.dget_lt nm hnm HG.out
          obtain ⟨aj, cj, hvj, _⟩ := own_shape (HE0.out.data j hjl)
          have zj : X.cell? ⟨adrOf L.addr j, 0, none⟩ = some (.slice aj (T.len j) cj) := by have := (HE0.out.body j hjl).cell 0; rw [hvj] at this; exact this
          have hnj : adrOf L.addr j ≠ p := (HE0.out.body j hjl).ne_ HE0.out.head (by decide)
          have hlj := HHTL.out j
          have HVJ := Lib.hid hvj; clear hvj
          go_wp2
          go_region
          all_goals go_wp2
          refine wp_world fun X1 hX1 => ?_
          have hus : (T.chStp (nm, none)).used = T.used - ↑(T.len j) := by
            show T.used - T.lenO (dget T.now nm) + T.lenO none = _
            rw [HG.out]; simp [Drv.lenO]
          have HE : Hid (DrvAt X1 p { T with used := (T.chStp (nm, none)).used } L) := by
            rw [hus, hX1]
            exact HE0.out.setUsed1 _
          have hlp : wr.heap.size ≠ p := by omega
          have HYB1 : Hid (Blk X1 wr.heap.size 122 #[.string ⟨nm.toArray⟩, .pointer none]) := by
            rw [hX1]
            exact (HYB.out.far (p := ⟨p, 1, none⟩) hlp _).drew
          have v1 : X1.cell? ⟨wr.heap.size, 0, none⟩ = some (.string ⟨nm.toArray⟩) := HYB1.out.cell 0
          have v2 : X1.cell? ⟨wr.heap.size, 1, none⟩ = some (.pointer none) := HYB1.out.cell 1
          have v3 : X1.cell? ⟨p, 2, none⟩ = some (.map (some L.nowM)) := HE.out.head.cell 2
          have hsv : X1.heap.size = X.heap.size := by rw [hX1]; simp [World.setCell]
          have hwx1 : wr.heap.size < X1.heap.size := by omega
          have hpx1 : p < X1.heap.size := by omega
          have HTX1 : Hid (Touch F w X1) := by
            rw [hX1]
            exact HTX.out.trans ((Touch.setCell _ _ _ (.inl (hF _ (.inl rfl)))).trans (Touch.drewN _ 1))
          have hgp : g ≠ p := HBX0.out.ne_ HE0.out.head (by decide)
          have HBX1 : Hid (Blk X1 g 122 (chgCells L.addr c).toArray) := by
            rw [hX1]
            exact (HBX0.out.far (p := ⟨p, 1, none⟩) hgp _).drew
          clear hX1 y1 y2 z1 z1f z2 hus hsv hgp hsx hpx hlp HYB HYB1
          clear zj hnj
          have HDX : Hid (DirAt (X1.alloc (.cells #[.string ⟨nm.toArray⟩, .pointer none] 122)) L.addr L.nowM T.now) := HE.out.now.keep (Below.heap_alloc _ _ _ HE.out.now.lt)
          have HBX : Hid (Blk (X1.alloc (.cells #[.string ⟨nm.toArray⟩, .pointer none] 122)) X1.heap.size 122 (chgCells L.addr [(nm, none)]).toArray) := Blk.new _ _ _
          have HO1 : Hid (okC L.addr [(nm, none)]) := by
            intro s hs; simp at hs; subst hs; exact ⟨hnm, hto⟩
          go_region_with (go_at_call 71; refine (apply_any L.nowM X1.heap.size T.now L.addr [(nm, none)] _ (by exact HDX.out) (by exact HBX.out) HE.out.nodup HO1.out HS1.out).mono ?_; rintro e w2 ⟨rfl, hd2, ht2⟩)
          all_goals (obtain ⟨hz1, hz2, hz3⟩ := ch_close (Y := _) HE.out HTX1.out hF HBX1.out (by first | exact (((Below.refl _ _).alloc (Nat.le_refl _) _).drew) | exact ((((Below.refl _ _).alloc (Nat.le_refl _) _).drew).drew)) hd2 ht2; rw [← HS.out] at hz1; have HZ1 := Lib.hid hz1; have HZ2 := Lib.hid hz2; have HZ3 := Lib.hid hz3; clear hd2 ht2 hz1 hz2 hz3)
          all_goals go_wp2
          all_goals go_roundw
          all_goals first | (case rel => exact ⟨k + 1, by omega, by go_num, HZ1.out, HZ2.out, HZ3.out⟩) | skip
          all_goals (simp [intOf]; omega)
      | some i =>
        simp only [ptrO] at x2
        cases hg : dget T.now nm with
        | none =>
          have HG := Lib.hid hg; clear hg
          have hDW : DrvAt (wr.alloc (.cells #[.string ⟨nm.toArray⟩, .pointer (some ⟨adrOf L.addr i, 0, none⟩)] 122)) p T L := HDK.out.keep fun q hq => Below.heap_alloc _ _ _ (HDK.out.foot_lt hq)
          have hlk : ∀ n, (Instr.lookup 87 (.map (some L.nowM)) (.string ⟨nm.toArray⟩) false).run Try.prog ((wr.alloc (.cells #[.string ⟨nm.toArray⟩, .pointer (some ⟨adrOf L.addr i, 0, none⟩)] 122)).drewN n) = .ok (ptrO L.addr (dget T.now nm)) ((wr.alloc (.cells #[.string ⟨nm.toArray⟩, .pointer (some ⟨adrOf L.addr i, 0, none⟩)] 122)).drewN n) :=
            fun n => DirAt.lookup (w := (wr.alloc (.cells #[.string ⟨nm.toArray⟩, .pointer (some ⟨adrOf L.addr i, 0, none⟩)] 122)).drewN n) hDW.now ⟨nm.toArray⟩ (by simpa [ByteArray.size] using hnm)
          rw [HG.out] at hlk
          simp only [ptrO] at hlk
          have HDW := Lib.hid hDW; clear hDW
          go_wp2
          go_quiet (fail)
          refine exit_world fun X hX => ?_
          have HE0 : Hid (DrvAt X p T L) := by rw [hX]; exact HDW.out.keep fun _ _ => rfl
          have HYB : Hid (Blk X wr.heap.size 122 #[.string ⟨nm.toArray⟩, .pointer (some ⟨adrOf L.addr i, 0, none⟩)]) := by rw [hX]; exact (Blk.new wr _ _).drewN _
          have y1 : X.cell? ⟨wr.heap.size, 0, none⟩ = some (.string ⟨nm.toArray⟩) := HYB.out.cell 0
          have y2 : X.cell? ⟨wr.heap.size, 1, none⟩ = some (.pointer (some ⟨adrOf L.addr i, 0, none⟩)) := HYB.out.cell 1
          have hsx : wr.heap.size < X.heap.size := by rw [hX]; simp
          have HTX : Hid (Touch F w X) := by rw [hX]; exact (HTK.out.trans (Touch.alloc _ _)).trans (Touch.drewN _ _)
          have HBX0 : Hid (Blk X g 122 (chgCells L.addr c).toArray) := by rw [hX]; exact (HBK.out.alloc _).drewN _
          have z1 : X.cell? ⟨p, 1, none⟩ = some (.int .i64 T.used) := HE0.out.head.cell 1
          have z1f : X.frozen? ⟨p, 1, none⟩ = false := HE0.out.head.frozen 1
          have z2 : X.cell? ⟨p, 2, none⟩ = some (.map (some L.nowM)) := HE0.out.head.cell 2
          have hpx : p < X.heap.size := HE0.out.head.lt
          clear hX h2 hlk HDW x1 x2
          have hil : i < T.bodies.length := by rw [← HE0.out.la]; exact hto i rfl
          obtain ⟨ai, ci, hvi, _⟩ := own_shape (HE0.out.data i hil)
          have zi : X.cell? ⟨adrOf L.addr i, 0, none⟩ = some (.slice ai (T.len i) ci) := by have := (HE0.out.body i hil).cell 0; rw [hvi] at this; exact this
          have hni : adrOf L.addr i ≠ p := (HE0.out.body i hil).ne_ HE0.out.head (by decide)
          have hli := HHTL.out i
          have HVI := Lib.hid hvi; clear hvi
          go_wp2
          all_goals go_region
          all_goals go_wp2
          refine wp_world fun X1 hX1 => ?_
          have hus : (T.chStp (nm, (some i))).used = T.used + ↑(T.len i) := by
            show T.used - T.lenO (dget T.now nm) + T.lenO (some i) = _
            rw [HG.out]; simp [Drv.lenO]
          have HE : Hid (DrvAt X1 p { T with used := (T.chStp (nm, (some i))).used } L) := by
            rw [hus, hX1]
            exact HE0.out.setUsed1 _
          have hlp : wr.heap.size ≠ p := by omega
          have HYB1 : Hid (Blk X1 wr.heap.size 122 #[.string ⟨nm.toArray⟩, .pointer (some ⟨adrOf L.addr i, 0, none⟩)]) := by
            rw [hX1]
            exact (HYB.out.far (p := ⟨p, 1, none⟩) hlp _).drew
          have v1 : X1.cell? ⟨wr.heap.size, 0, none⟩ = some (.string ⟨nm.toArray⟩) := HYB1.out.cell 0
          have v2 : X1.cell? ⟨wr.heap.size, 1, none⟩ = some (.pointer (some ⟨adrOf L.addr i, 0, none⟩)) := HYB1.out.cell 1
          have v3 : X1.cell? ⟨p, 2, none⟩ = some (.map (some L.nowM)) := HE.out.head.cell 2
          have hsv : X1.heap.size = X.heap.size := by rw [hX1]; simp [World.setCell]
          have hwx1 : wr.heap.size < X1.heap.size := by omega
          have hpx1 : p < X1.heap.size := by omega
          have HTX1 : Hid (Touch F w X1) := by
            rw [hX1]
            exact HTX.out.trans ((Touch.setCell _ _ _ (.inl (hF _ (.inl rfl)))).trans (Touch.drewN _ 1))
          have hgp : g ≠ p := HBX0.out.ne_ HE0.out.head (by decide)
          have HBX1 : Hid (Blk X1 g 122 (chgCells L.addr c).toArray) := by
            rw [hX1]
            exact (HBX0.out.far (p := ⟨p, 1, none⟩) hgp _).drew
          clear hX1 y1 y2 z1 z1f z2 hus hsv hgp hsx hpx hlp HYB HYB1
          clear zi hni
          have HDX : Hid (DirAt (X1.alloc (.cells #[.string ⟨nm.toArray⟩, .pointer (some ⟨adrOf L.addr i, 0, none⟩)] 122)) L.addr L.nowM T.now) := HE.out.now.keep (Below.heap_alloc _ _ _ HE.out.now.lt)
          have HBX : Hid (Blk (X1.alloc (.cells #[.string ⟨nm.toArray⟩, .pointer (some ⟨adrOf L.addr i, 0, none⟩)] 122)) X1.heap.size 122 (chgCells L.addr [(nm, (some i))]).toArray) := Blk.new _ _ _
          have HO1 : Hid (okC L.addr [(nm, (some i))]) := by
            intro s hs; simp at hs; subst hs; exact ⟨hnm, hto⟩
          go_region_with (go_at_call 71; refine (apply_any L.nowM X1.heap.size T.now L.addr [(nm, (some i))] _ (by exact HDX.out) (by exact HBX.out) HE.out.nodup HO1.out HS1.out).mono ?_; rintro e w2 ⟨rfl, hd2, ht2⟩)
          all_goals (obtain ⟨hz1, hz2, hz3⟩ := ch_close (Y := _) HE.out HTX1.out hF HBX1.out (by first | exact (((Below.refl _ _).alloc (Nat.le_refl _) _).drew) | exact ((((Below.refl _ _).alloc (Nat.le_refl _) _).drew).drew)) hd2 ht2; rw [← HS.out] at hz1; have HZ1 := Lib.hid hz1; have HZ2 := Lib.hid hz2; have HZ3 := Lib.hid hz3; clear hd2 ht2 hz1 hz2 hz3)
          all_goals go_wp2
          all_goals go_roundw
          all_goals first | (case rel => exact ⟨k + 1, by omega, by go_num, HZ1.out, HZ2.out, HZ3.out⟩) | skip
          all_goals (simp [intOf]; omega)
        | some j =>
          have HG := Lib.hid hg; clear hg
          have hDW : DrvAt (wr.alloc (.cells #[.string ⟨nm.toArray⟩, .pointer (some ⟨adrOf L.addr i, 0, none⟩)] 122)) p T L := HDK.out.keep fun q hq => Below.heap_alloc _ _ _ (HDK.out.foot_lt hq)
          have hlk : ∀ n, (Instr.lookup 87 (.map (some L.nowM)) (.string ⟨nm.toArray⟩) false).run Try.prog ((wr.alloc (.cells #[.string ⟨nm.toArray⟩, .pointer (some ⟨adrOf L.addr i, 0, none⟩)] 122)).drewN n) = .ok (ptrO L.addr (dget T.now nm)) ((wr.alloc (.cells #[.string ⟨nm.toArray⟩, .pointer (some ⟨adrOf L.addr i, 0, none⟩)] 122)).drewN n) :=
            fun n => DirAt.lookup (w := (wr.alloc (.cells #[.string ⟨nm.toArray⟩, .pointer (some ⟨adrOf L.addr i, 0, none⟩)] 122)).drewN n) hDW.now ⟨nm.toArray⟩ (by simpa [ByteArray.size] using hnm)
          rw [HG.out] at hlk
          simp only [ptrO] at hlk
          have HDW := Lib.hid hDW; clear hDW
          go_wp2
          go_quiet (fail)
          refine exit_world fun X hX => ?_
          have HE0 : Hid (DrvAt X p T L) := by rw [hX]; exact HDW.out.keep fun _ _ => rfl
          have HYB : Hid (Blk X wr.heap.size 122 #[.string ⟨nm.toArray⟩, .pointer (some ⟨adrOf L.addr i, 0, none⟩)]) := by rw [hX]; exact (Blk.new wr _ _).drewN _
          have y1 : X.cell? ⟨wr.heap.size, 0, none⟩ = some (.string ⟨nm.toArray⟩) := HYB.out.cell 0
          have y2 : X.cell? ⟨wr.heap.size, 1, none⟩ = some (.pointer (some ⟨adrOf L.addr i, 0, none⟩)) := HYB.out.cell 1
          have hsx : wr.heap.size < X.heap.size := by rw [hX]; simp
          have HTX : Hid (Touch F w X) := by rw [hX]; exact (HTK.out.trans (Touch.alloc _ _)).trans (Touch.drewN _ _)
          have HBX0 : Hid (Blk X g 122 (chgCells L.addr c).toArray) := by rw [hX]; exact (HBK.out.alloc _).drewN _
          have z1 : X.cell? ⟨p, 1, none⟩ = some (.int .i64 T.used) := HE0.out.head.cell 1
          have z1f : X.frozen? ⟨p, 1, none⟩ = false := HE0.out.head.frozen 1
          have z2 : X.cell? ⟨p, 2, none⟩ = some (.map (some L.nowM)) := HE0.out.head.cell 2
          have hpx : p < X.heap.size := HE0.out.head.lt
          clear hX h2 hlk HDW x1 x2
          have hjl : j < T.bodies.length := by rw [← HE0.out.la]; exact HE0.out.now.dget_lt nm hnm HG.out
          obtain ⟨aj, cj, hvj, _⟩ := own_shape (HE0.out.data j hjl)
          have zj : X.cell? ⟨adrOf L.addr j, 0, none⟩ = some (.slice aj (T.len j) cj) := by have := (HE0.out.body j hjl).cell 0; rw [hvj] at this; exact this
          have hnj : adrOf L.addr j ≠ p := (HE0.out.body j hjl).ne_ HE0.out.head (by decide)
          have hlj := HHTL.out j
          have HVJ := Lib.hid hvj; clear hvj
          have hil : i < T.bodies.length := by rw [← HE0.out.la]; exact hto i rfl
          obtain ⟨ai, ci, hvi, _⟩ := own_shape (HE0.out.data i hil)
          have zi : X.cell? ⟨adrOf L.addr i, 0, none⟩ = some (.slice ai (T.len i) ci) := by have := (HE0.out.body i hil).cell 0; rw [hvi] at this; exact this
          have hni : adrOf L.addr i ≠ p := (HE0.out.body i hil).ne_ HE0.out.head (by decide)
          have hli := HHTL.out i
          have HVI := Lib.hid hvi; clear hvi
          go_wp2
          go_region
          all_goals go_wp2
          all_goals go_region
          all_goals go_wp2
          refine wp_world fun X1 hX1 => ?_
          have hus : (T.chStp (nm, (some i))).used = T.used - ↑(T.len j) + ↑(T.len i) := by
            show T.used - T.lenO (dget T.now nm) + T.lenO (some i) = _
            rw [HG.out]; simp [Drv.lenO]
          have HE : Hid (DrvAt X1 p { T with used := (T.chStp (nm, (some i))).used } L) := by
            rw [hus, hX1]
            exact HE0.out.setUsed2 _ _
          have hlp : wr.heap.size ≠ p := by omega
          have HYB1 : Hid (Blk X1 wr.heap.size 122 #[.string ⟨nm.toArray⟩, .pointer (some ⟨adrOf L.addr i, 0, none⟩)]) := by
            rw [hX1]
            exact ((HYB.out.far (p := ⟨p, 1, none⟩) hlp _).far (p := ⟨p, 1, none⟩) hlp _).drew.drew
          have v1 : X1.cell? ⟨wr.heap.size, 0, none⟩ = some (.string ⟨nm.toArray⟩) := HYB1.out.cell 0
          have v2 : X1.cell? ⟨wr.heap.size, 1, none⟩ = some (.pointer (some ⟨adrOf L.addr i, 0, none⟩)) := HYB1.out.cell 1
          have v3 : X1.cell? ⟨p, 2, none⟩ = some (.map (some L.nowM)) := HE.out.head.cell 2
          have hsv : X1.heap.size = X.heap.size := by rw [hX1]; simp [World.setCell]
          have hwx1 : wr.heap.size < X1.heap.size := by omega
          have hpx1 : p < X1.heap.size := by omega
          have HTX1 : Hid (Touch F w X1) := by
            rw [hX1]
            exact HTX.out.trans (((Touch.setCell _ _ _ (.inl (hF _ (.inl rfl)))).trans (Touch.setCell _ _ _ (.inl (.inl (hF _ (.inl rfl)))))).trans (Touch.drewN _ 2))
          have hgp : g ≠ p := HBX0.out.ne_ HE0.out.head (by decide)
          have HBX1 : Hid (Blk X1 g 122 (chgCells L.addr c).toArray) := by
            rw [hX1]
            exact ((HBX0.out.far (p := ⟨p, 1, none⟩) hgp _).far (p := ⟨p, 1, none⟩) hgp _).drew.drew
          clear hX1 y1 y2 z1 z1f z2 hus hsv hgp hsx hpx hlp HYB HYB1
          clear zj hnj
          clear zi hni
          have HDX : Hid (DirAt (X1.alloc (.cells #[.string ⟨nm.toArray⟩, .pointer (some ⟨adrOf L.addr i, 0, none⟩)] 122)) L.addr L.nowM T.now) := HE.out.now.keep (Below.heap_alloc _ _ _ HE.out.now.lt)
          have HBX : Hid (Blk (X1.alloc (.cells #[.string ⟨nm.toArray⟩, .pointer (some ⟨adrOf L.addr i, 0, none⟩)] 122)) X1.heap.size 122 (chgCells L.addr [(nm, (some i))]).toArray) := Blk.new _ _ _
          have HO1 : Hid (okC L.addr [(nm, (some i))]) := by
            intro s hs; simp at hs; subst hs; exact ⟨hnm, hto⟩
          go_region_with (go_at_call 71; refine (apply_any L.nowM X1.heap.size T.now L.addr [(nm, (some i))] _ (by exact HDX.out) (by exact HBX.out) HE.out.nodup HO1.out HS1.out).mono ?_; rintro e w2 ⟨rfl, hd2, ht2⟩)
          all_goals (obtain ⟨hz1, hz2, hz3⟩ := ch_close (Y := _) HE.out HTX1.out hF HBX1.out (by first | exact (((Below.refl _ _).alloc (Nat.le_refl _) _).drew) | exact ((((Below.refl _ _).alloc (Nat.le_refl _) _).drew).drew)) hd2 ht2; rw [← HS.out] at hz1; have HZ1 := Lib.hid hz1; have HZ2 := Lib.hid hz2; have HZ3 := Lib.hid hz3; clear hd2 ht2 hz1 hz2 hz3)
          all_goals go_wp2
          all_goals go_roundw
          all_goals first | (case rel => exact ⟨k + 1, by omega, by go_num, HZ1.out, HZ2.out, HZ3.out⟩) | skip
          all_goals (simp [intOf]; omega)
    · have hkl : k = len := by omega
      subst hkl
      have hck : c.take k = c := List.take_of_length_le (by rw [HLEN.out]; exact Nat.le_refl _)
      rw [hck] at hdk
      clear hck
      have hpb := Drv.chAll_bodies S c
      obtain ⟨T, hT⟩ : ∃ T, T = S.chAll c := ⟨_, rfl⟩
      rw [← hT] at hdk hpb
      have hpdT : T.pending.length ≤ 2199023254000 := by rw [hpb.2.2.2]; exact HPD.out
      have hpl : p < wr.heap.size := hdk.head.lt
      have h4 : wr.cell? ⟨p, 4, none⟩ = some L.pv := hdk.head.cell 4
      have HDK := Lib.hid hdk
      have HBK := Lib.hid hbk
      have HTT := Lib.hid hT
      have HPT := Lib.hid hpdT
      clear hdk hbk hT hpb hpdT
      have hLc := HLEN.out
      have HLc := Lib.hid hLc; clear hLc
      go_wp2_with (at_builtin; go_must (refine wpList_append_any _ rfl (.tmp 75) (.tmp 77) 88 rfl 0 114 i114 _ 1 24 Try.underlying88 hi114 hz0 hz1 hz2 rfl (by omega) _ T.pending.length _ rfl (HDK.out.pend.alloc _) (wr.heap.size + 1) (some ⟨wr.heap.size, 0, none⟩) 1 1 [.slice (some ⟨g, 0, none⟩) k k] rfl (by exact reads_blk (t := 114) (blk_last _ _ _ _ rfl) (by omega) rfl) (by intro u hu; simp at hu; subst hu; rfl) (by have := HPT.out; simp only [maxLen]; omega) (by have := HPT.out; omega) (by omega) ?_); intro v1 w1 hown1 hg1 hat1; obtain ⟨a1, c1, rfl, _⟩ := own_shape hown1; go_must (have hDW : DrvAt (wr.alloc (.cells #[.slice (some ⟨g, 0, none⟩) k k] 114)) p T L := HDK.out.keep fun q hq => Below.heap_alloc _ _ _ (HDK.out.foot_lt hq); have hpw : Blk w1 p 90 _ := hDW.head.grown hg1 (fun e => own_blk_ne hDW.pend hDW.head (by decide) e.symm); have p4 : w1.cell? ⟨p, 4, none⟩ = some L.pv := hpw.cell 4; have p4f : w1.frozen? ⟨p, 4, none⟩ = false := hpw.frozen 4; have HDW := Lib.hid hDW; have HOWN := Lib.hid hown1; have HG1 := Lib.hid hg1; have HAT := Lib.hid hat1; clear hDW hown1 hg1 hat1 hpw))
      have hiv : innerV g c = .slice (some ⟨g, 0, none⟩) k k := by unfold innerV; rw [HLc.out]
      have HFIN := HDW.out.setPend (c := c) (v := .slice a1 (T.pending.length + 1) c1) ((HBK.out.alloc _)) (by rw [hiv]; exact HOWN.out) HG1.out HOK.out
      go_end0
      refine ⟨rfl, ⟨{ L with pv := .slice a1 (T.pending.length + 1) c1, inner := L.inner ++ [g] }, rfl, ?_, ?_⟩, ?_⟩
      · have e : S.change c = { T with pending := T.pending ++ [c] } := by rw [HTT.out]; rfl
        rw [e]; exact HFIN
      · rintro q (h | h | h | h | h | h | h)
        · exact .inl (hF _ (.inl h))
        · exact .inl (hF _ (.inr (.inl h)))
        · exact .inl (hF _ (.inr (.inr (.inl h))))
        · exact .inl (hF _ (.inr (.inr (.inr (.inl h)))))
        · exact .inl (hF _ (.inr (.inr (.inr (.inr (.inl h))))))
        · by_cases hq : q < w.heap.size
          · refine .inl ?_
            rcases HAT.out with e | e
            · exact hF _ (.inr (.inr (.inr (.inr (.inr (.inl (e.symm.trans h)))))))
            · exfalso
              rw [e] at h; injection h with h
              have : wr.heap.size + 1 = q := by simpa using h
              omega
          · refine .inr ⟨by omega, ?_⟩
            have := (HOWN.out.lt q h).2
            simpa [World.setCell] using this
        · rcases List.mem_append.1 h with h | h
          · exact .inl (hF _ (.inr (.inr (.inr (.inr (.inr (.inr h)))))))
          · simp at h; subst h; exact .inl hFg
      · have t1 : Touch F w w1 := (HTK.out.trans (Touch.alloc _ _)).trans (Touch.of_grown HG1.out (fun q hq => .inl (hF _ (.inr (.inr (.inr (.inr (.inr (.inl hq)))))))))
        exact t1.trans (Touch.setCell _ _ _ (Or.inl (hF _ (Or.inl rfl))))
end Go.Proofs.Ytdmcjomcbhdcbaa

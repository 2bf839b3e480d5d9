/- Contracts of the drive: Read, Loose, Sync, SyncDir, and calls on a drive that is not there.; Contract of the drive: a change is made in what stands; it is pending: the walk.; How a drive in memory turns: a body's bytes or its safe ones, a new body, the names made safe. -/
import Derived.Test.YtcbebefdbdppdaaGreatM4
namespace Go.Proofs.YtcbebefdbdppdaaGreat
open Go.RowKit Go.Maps
theorem find_cases (S : Drv) (s : Nm) : (S.find s = (none, (S.find s).2) ∧ ((S.find s).2 = 91 ∨ (S.find s).2 = 110)) ∨ ∃ i, S.find s = (some i, 0) ∧ dget S.now s = some i := by
  unfold Drv.find
  split
  · exact .inl ⟨rfl, .inl rfl⟩
  · split
    · rename_i i h; exact .inr ⟨i, rfl, h⟩
    · exact .inl ⟨rfl, .inr rfl⟩
theorem reads_own {w : World} {base : Nat} {e : TypeId} {v : Value} {n : Nat} {xs : List Value} {a : Option Addr} {c : Nat} (hv : v = .slice a n c) (h : w.ownsRow base e 1 v n xs) : Reads w w.heap.size 1 a n xs := by
  subst hv; exact Reads.of_own h
theorem read_any (p : Nat) (S : Drv) (addr : List Nat) (F : Nat → Prop) (s : ByteArray) (w : World) (hs : s.size ≤ maxLen) (hd : DrA w p S addr F) (hl : ∀ i, S.len i ≤ 2147483648) :
    Calls Tryz.prog 65 #[.pointer (some ⟨p, 0, none⟩), .string s] w fun e w' =>
      ∃ v, e = .returned (.tuple #[v, .int .i64 (S.read s.data.toList).2]) ∧ w'.ownsRow w.heap.size 5 1 v (S.read s.data.toList).1.length ((S.read s.data.toList).1.map B8) ∧ Below w.heap.size w w' := by
  have HF := Lib.hid (find_any p S addr F s w hs hd)
  have HS := Lib.hid hs; clear hs
  rcases find_cases S s.data.toList with ⟨hf, he⟩ | ⟨i, hf, hg⟩
  · obtain ⟨x, hx⟩ : ∃ x, x = (S.find s.data.toList).2 := ⟨_, rfl⟩
    rw [← hx] at hf he
    have HR : Hid (S.read s.data.toList = ([], x)) := by unfold Drv.read; rw [hf]; exact rfl
    rw [hf] at HF
    simp only [ptrO] at HF
    have hne : (x != 0) = true := by rcases he with rfl | rfl <;> rfl
    clear hd hl hx hf he
    rw [HR.out]
    go_enter Tryz.func65, Tryz.ntmps65
    go_wp2_with (go_at_call 67; refine HF.out.mono ?_; rintro e w' ⟨rfl, rfl⟩)
    go_ret2
    exact ⟨_, rfl, World.ownsRow_nil _ _ _ _, Below.refl _ _⟩
  · have HR : Hid (S.read s.data.toList = ((S.body i).data, 0)) := by unfold Drv.read; rw [hf]; exact rfl
    rw [hf] at HF
    simp only [ptrO] at HF
    obtain ⟨L, rfl, hD, _⟩ := hd
    have hil : i < S.bodies.length := by rw [← hD.la]; exact hD.now.dget_lt _ (by rw [len_size]; exact HS.out) hg
    obtain ⟨a, c, hv, _⟩ := own_shape (hD.data i hil)
    have hc : w.cell? ⟨adrOf L.addr i, 0, none⟩ = some (.slice a (S.len i) c) := by have := (hD.body i hil).cell 0; rw [hv] at this; exact this
    have HRD := Lib.hid (reads_own hv (hD.data i hil))
    have hlen := hl i
    clear hD hv hf hg hl
    rw [HR.out]
    go_enter Tryz.func65, Tryz.ntmps65
    go_wp2_with (first
      | (go_at_call 67; refine HF.out.mono ?_; rintro e w' ⟨rfl, rfl⟩)
      | (go_at_call 79; refine (clone_any _ _ _ _ _ _ HRD.out (by omega)).mono ?_; rintro e w' ⟨v, rfl, ho, hb⟩; have HO := Lib.hid ho; have HB := Lib.hid hb; clear ho hb))
    go_ret2
    exact ⟨v, rfl, HO.out, HB.out⟩
end Go.Proofs.YtcbebefdbdppdaaGreat
namespace Go.Proofs.YtcbebefdbdppdaaGreat
open Go.RowKit Go.Maps Go.WideMaps
theorem wp_world {P : Program} {c : Code} {Q : Exit → Act → World → Prop} {a : Act} {W : World} (h : ∀ X, X = W → c.wp P Q a X) : c.wp P Q a W := h W rfl
theorem stepsInfo : (Tryz.prog.info? 175).map (fun i => (i.zero, i.size, i.bytes)) = some (some (.slice none 0 0), 1, 24) := by kernel_rfl
theorem exit_world {Q : Exit → Act → World → Prop} {e : Exit} {a : Act} {W : World} (h : ∀ X, X = W → Q e a X) : Q e a W := h W rfl
set_option maxHeartbeats 8000000 in
set_option maxRecDepth 100000 in
theorem change_any (p g : Nat) (S : Drv) (addr : List Nat) (F : Nat → Prop) (c : List Stp) (w : World) (hd : DrA w p S addr F) (hb : Blk w g 240 (chgCells addr c).toArray) (hFg : F g)
    (hok : okC addr c) (hc : c.length ≤ 4) (hl : ∀ i, S.len i ≤ 2147483648)
    (hu : -1152921504606846976 ≤ S.used ∧ S.used ≤ 1152921504606846976) (hsz : size S.now ≤ 2199023254000) (hpd : S.pending.length ≤ 2199023254000) :
    Calls Tryz.prog 270 #[.pointer (some ⟨p, 0, none⟩), .slice (some ⟨g, 0, none⟩) c.length c.length] w fun e w' =>
      e = .returned (.tuple #[]) ∧ DrA w' p (S.change c) addr (grow F w w') ∧ Touch F w w' := by
  obtain ⟨L, rfl, hD, hF⟩ := hd
  have heq := map_there
  obtain ⟨i114, hi114, hz0, hz1, hz2⟩ := info_parts stepsInfo
  have hhead := hD.head
  have q2 : w.cell? ⟨p, 2, none⟩ = some (.map (some L.nowM)) := hhead.cell 2
  have HD := Lib.hid hD; clear hD
  have HOK := Lib.hid hok; clear hok
  have HSZ := Lib.hid hsz; clear hsz
  have HPD := Lib.hid hpd; clear hpd
  have HL := Lib.hid hl; clear hl
  have HU := Lib.hid hu; clear hu
  have HB := Lib.hid hb; clear hb hhead
  generalize hlen : c.length = len at *
  have HLEN := Lib.hid hlen; clear hlen
  go_enter Tryz.func270, Tryz.ntmps270
  go_wp2
  go_loopw [22] (fun s wr => ∃ k : Nat, k ≤ len ∧ s = .int .i64 k ∧ DrvAt wr p (S.chAll (c.take k)) L ∧ Touch F w wr ∧ Blk wr g 240 (chgCells L.addr c).toArray) (fun s _ => len - (intOf s).toNat)
  case atStart => exact ⟨0, Nat.zero_le _, rfl, HD.out, Touch.refl _ _, HB.out⟩
  case round =>
    obtain ⟨k, hk, rfl, hdk, htk, hbk⟩ := hrel
    have HTK := Lib.hid htk; clear htk
    have hszr : w.heap.size ≤ wr.heap.size := HTK.out.size
    by_cases hlt : k < len
    · obtain ⟨⟨nm, to⟩, hst⟩ : ∃ s, c[k]? = some s := ⟨c[k]'(by rw [HLEN.out]; exact hlt), List.getElem?_eq_getElem _⟩
      obtain ⟨hnm, hto⟩ := HOK.out _ (List.mem_of_getElem? hst)
      have HS := Lib.hid (show S.chAll (c.take (k + 1)) = (S.chAll (c.take k)).chStp (nm, to) from by
        rw [List.take_add_one, hst, Option.toList_some, Drv.chAll_snoc])
      obtain ⟨c1, c2⟩ := chg_get L.addr c k _ hst
      have x1 : wr.cell? ⟨g, k * 2, none⟩ = some (.string ⟨nm.toArray⟩) := by rw [hbk.cell]; simpa [strV] using c1
      have x2 : wr.cell? ⟨g, k * 2 + 1, none⟩ = some (ptrO L.addr to) := by rw [hbk.cell]; simpa using c2
      obtain ⟨T, hT⟩ : ∃ T, T = S.chAll (c.take k) := ⟨_, rfl⟩
      rw [← hT] at hdk HS
      have hTl : ∀ i, T.len i ≤ 2147483648 := fun i => by rw [hT, Drv.len_same (Drv.chAll_bodies S _).1]; exact HL.out i
      have hTu := Drv.chAll_used S HL.out (c.take k)
      have hkl : (c.take k).length ≤ 4 := by rw [List.length_take]; omega
      have hub : -1152921504606846976 - 8589934592 ≤ T.used ∧ T.used ≤ 1152921504606846976 + 8589934592 := by
        have := HU.out
        rw [← hT] at hTu
        omega
      have HS1 : Hid (size T.now + 1 ≤ 2199023255552) := by
        have h1 := (applyC_tidy (c.take k) HD.out.now.tidy).2
        have h2 := HSZ.out
        rw [hT, Drv.chAll_now]
        show _ ≤ _
        omega
      have HDK := Lib.hid hdk
      have HBK := Lib.hid hbk
      clear c1 c2 hst hTu hkl hdk hbk
      have HTT := Lib.hid hT; clear hT
      have HHTL := Lib.hid hTl; clear hTl
      have hpl : p < wr.heap.size := HDK.out.head.lt
      have h2 : wr.cell? ⟨p, 2, none⟩ = some (.map (some L.nowM)) := HDK.out.head.cell 2
      cases to with
      | none =>
        simp only [ptrO] at x2
        cases hg : dget T.now nm with
        | none =>
          have HG := Lib.hid hg; clear hg
          have hDW : DrvAt (wr.alloc (.cells #[.string ⟨nm.toArray⟩, .pointer none] 240)) p T L := HDK.out.keep fun q hq => Below.heap_alloc _ _ _ (HDK.out.foot_lt hq)
          have hlk : ∀ n, (Instr.lookup 135 (.map (some L.nowM)) (.string ⟨nm.toArray⟩) false).run Tryz.prog ((wr.alloc (.cells #[.string ⟨nm.toArray⟩, .pointer none] 240)).drewN n) = .ok (ptrO L.addr (dget T.now nm)) ((wr.alloc (.cells #[.string ⟨nm.toArray⟩, .pointer none] 240)).drewN n) :=
            fun n => DirAt.lookup (w := (wr.alloc (.cells #[.string ⟨nm.toArray⟩, .pointer none] 240)).drewN n) hDW.now ⟨nm.toArray⟩ (by simpa [ByteArray.size] using hnm)
          rw [HG.out] at hlk
          simp only [ptrO] at hlk
          have HDW := Lib.hid hDW; clear hDW
          go_wp2
          go_quiet (fail)
          refine exit_world fun X hX => ?_
          have HE0 : Hid (DrvAt X p T L) := by rw [hX]; exact HDW.out.keep fun _ _ => rfl
          have HYB : Hid (Blk X wr.heap.size 240 #[.string ⟨nm.toArray⟩, .pointer none]) := by rw [hX]; exact (Blk.new wr _ _).drewN _
          have y1 : X.cell? ⟨wr.heap.size, 0, none⟩ = some (.string ⟨nm.toArray⟩) := HYB.out.cell 0
          have y2 : X.cell? ⟨wr.heap.size, 1, none⟩ = some (.pointer none) := HYB.out.cell 1
          have hsx : wr.heap.size < X.heap.size := by rw [hX]; simp
          have HTX : Hid (Touch F w X) := by rw [hX]; exact (HTK.out.trans (Touch.alloc _ _)).trans (Touch.drewN _ _)
          have HBX0 : Hid (Blk X g 240 (chgCells L.addr c).toArray) := by rw [hX]; exact (HBK.out.alloc _).drewN _
          have z1 : X.cell? ⟨p, 1, none⟩ = some (.int .i64 T.used) := HE0.out.head.cell 1
          have z1f : X.frozen? ⟨p, 1, none⟩ = false := HE0.out.head.frozen 1
          have z2 : X.cell? ⟨p, 2, none⟩ = some (.map (some L.nowM)) := HE0.out.head.cell 2
          have hpx : p < X.heap.size := HE0.out.head.lt
          clear hX h2 hlk HDW x1 x2
          go_wp2
          refine wp_world fun X1 hX1 => ?_
          have hus : (T.chStp (nm, none)).used = T.used := by
            show T.used - T.lenO (dget T.now nm) + T.lenO none = _
            rw [HG.out]; simp [Drv.lenO]
          have HE : Hid (DrvAt X1 p { T with used := (T.chStp (nm, none)).used } L) := by
            rw [hus, hX1]
            exact HE0.out
          have hlp : wr.heap.size ≠ p := by omega
          have HYB1 : Hid (Blk X1 wr.heap.size 240 #[.string ⟨nm.toArray⟩, .pointer none]) := by
            rw [hX1]
            exact HYB.out
          have v1 : X1.cell? ⟨wr.heap.size, 0, none⟩ = some (.string ⟨nm.toArray⟩) := HYB1.out.cell 0
          have v2 : X1.cell? ⟨wr.heap.size, 1, none⟩ = some (.pointer none) := HYB1.out.cell 1
          have v3 : X1.cell? ⟨p, 2, none⟩ = some (.map (some L.nowM)) := HE.out.head.cell 2
          have hsv : X1.heap.size = X.heap.size := by rw [hX1]
          have hwx1 : wr.heap.size < X1.heap.size := by omega
          have hpx1 : p < X1.heap.size := by omega
          have HTX1 : Hid (Touch F w X1) := by
            rw [hX1]
            exact HTX.out.trans (Touch.refl _ _)
          have hgp : g ≠ p := HBX0.out.ne_ HE0.out.head (by decide)
          have HBX1 : Hid (Blk X1 g 240 (chgCells L.addr c).toArray) := by
            rw [hX1]
            exact HBX0.out
          clear hX1 y1 y2 z1 z1f z2 hus hsv hgp hsx hpx hlp HYB HYB1
          have HDX : Hid (DirAt (X1.alloc (.cells #[.string ⟨nm.toArray⟩, .pointer none] 240)) L.addr L.nowM T.now) := HE.out.now.keep (Below.heap_alloc _ _ _ HE.out.now.lt)
          have HBX : Hid (Blk (X1.alloc (.cells #[.string ⟨nm.toArray⟩, .pointer none] 240)) X1.heap.size 240 (chgCells L.addr [(nm, none)]).toArray) := Blk.new _ _ _
          have HO1 : Hid (okC L.addr [(nm, none)]) := by
            intro s hs; simp at hs; subst hs; exact ⟨hnm, hto⟩
          go_region_with (go_at_call 81; refine (apply_any L.nowM X1.heap.size T.now L.addr [(nm, none)] _ (by exact HDX.out) (by exact HBX.out) HE.out.nodup HO1.out HS1.out).mono ?_; rintro e w2 ⟨rfl, hd2, ht2⟩)
          all_goals (obtain ⟨hz1, hz2, hz3⟩ := ch_close (Y := _) HE.out HTX1.out hF HBX1.out (by first | exact (((Below.refl _ _).alloc (Nat.le_refl _) _).drew) | exact ((((Below.refl _ _).alloc (Nat.le_refl _) _).drew).drew)) hd2 ht2; rw [← HS.out] at hz1; have HZ1 := Lib.hid hz1; have HZ2 := Lib.hid hz2; have HZ3 := Lib.hid hz3; clear hd2 ht2 hz1 hz2 hz3)
          all_goals go_wp2
          all_goals go_roundw
          all_goals first | (case rel => exact ⟨k + 1, by omega, by go_num, HZ1.out, HZ2.out, HZ3.out⟩) | skip
          all_goals (simp [intOf]; omega)
        | some j =>
          have HG := Lib.hid hg; clear hg
          have hDW : DrvAt (wr.alloc (.cells #[.string ⟨nm.toArray⟩, .pointer none] 240)) p T L := HDK.out.keep fun q hq => Below.heap_alloc _ _ _ (HDK.out.foot_lt hq)
          have hlk : ∀ n, (Instr.lookup 135 (.map (some L.nowM)) (.string ⟨nm.toArray⟩) false).run Tryz.prog ((wr.alloc (.cells #[.string ⟨nm.toArray⟩, .pointer none] 240)).drewN n) = .ok (ptrO L.addr (dget T.now nm)) ((wr.alloc (.cells #[.string ⟨nm.toArray⟩, .pointer none] 240)).drewN n) :=
            fun n => DirAt.lookup (w := (wr.alloc (.cells #[.string ⟨nm.toArray⟩, .pointer none] 240)).drewN n) hDW.now ⟨nm.toArray⟩ (by simpa [ByteArray.size] using hnm)
          rw [HG.out] at hlk
          simp only [ptrO] at hlk
          have HDW := Lib.hid hDW; clear hDW
          go_wp2
          go_quiet (fail)
          refine exit_world fun X hX => ?_
          have HE0 : Hid (DrvAt X p T L) := by rw [hX]; exact HDW.out.keep fun _ _ => rfl
          have HYB : Hid (Blk X wr.heap.size 240 #[.string ⟨nm.toArray⟩, .pointer none]) := by rw [hX]; exact (Blk.new wr _ _).drewN _
          have y1 : X.cell? ⟨wr.heap.size, 0, none⟩ = some (.string ⟨nm.toArray⟩) := HYB.out.cell 0
          have y2 : X.cell? ⟨wr.heap.size, 1, none⟩ = some (.pointer none) := HYB.out.cell 1
          have hsx : wr.heap.size < X.heap.size := by rw [hX]; simp
          have HTX : Hid (Touch F w X) := by rw [hX]; exact (HTK.out.trans (Touch.alloc _ _)).trans (Touch.drewN _ _)
          have HBX0 : Hid (Blk X g 240 (chgCells L.addr c).toArray) := by rw [hX]; exact (HBK.out.alloc _).drewN _
          have z1 : X.cell? ⟨p, 1, none⟩ = some (.int .i64 T.used) := HE0.out.head.cell 1
          have z1f : X.frozen? ⟨p, 1, none⟩ = false := HE0.out.head.frozen 1
          have z2 : X.cell? ⟨p, 2, none⟩ = some (.map (some L.nowM)) := HE0.out.head.cell 2
          have hpx : p < X.heap.size := HE0.out.head.lt
          clear hX h2 hlk HDW x1 x2
          have hjl : j < T.bodies.length := by rw [← HE0.out.la]; exact HE0.out.now.dget_lt nm hnm HG.out
          obtain ⟨aj, cj, hvj, _⟩ := own_shape (HE0.out.data j hjl)
          have zj : X.cell? ⟨adrOf L.addr j, 0, none⟩ = some (.slice aj (T.len j) cj) := by have := (HE0.out.body j hjl).cell 0; rw [hvj] at this; exact this
          have hnj : adrOf L.addr j ≠ p := (HE0.out.body j hjl).ne_ HE0.out.head (by decide)
          have hlj := HHTL.out j
          have HVJ := Lib.hid hvj; clear hvj
          go_wp2
          go_region
          all_goals go_wp2
          refine wp_world fun X1 hX1 => ?_
          have hus : (T.chStp (nm, none)).used = T.used - ↑(T.len j) := by
            show T.used - T.lenO (dget T.now nm) + T.lenO none = _
            rw [HG.out]; simp [Drv.lenO]
          have HE : Hid (DrvAt X1 p { T with used := (T.chStp (nm, none)).used } L) := by
            rw [hus, hX1]
            exact HE0.out.setUsed1 _
          have hlp : wr.heap.size ≠ p := by omega
          have HYB1 : Hid (Blk X1 wr.heap.size 240 #[.string ⟨nm.toArray⟩, .pointer none]) := by
            rw [hX1]
            exact (HYB.out.far (p := ⟨p, 1, none⟩) hlp _).drew
          have v1 : X1.cell? ⟨wr.heap.size, 0, none⟩ = some (.string ⟨nm.toArray⟩) := HYB1.out.cell 0
          have v2 : X1.cell? ⟨wr.heap.size, 1, none⟩ = some (.pointer none) := HYB1.out.cell 1
          have v3 : X1.cell? ⟨p, 2, none⟩ = some (.map (some L.nowM)) := HE.out.head.cell 2
          have hsv : X1.heap.size = X.heap.size := by rw [hX1]; simp [World.setCell]
          have hwx1 : wr.heap.size < X1.heap.size := by omega
          have hpx1 : p < X1.heap.size := by omega
          have HTX1 : Hid (Touch F w X1) := by
            rw [hX1]
            exact HTX.out.trans ((Touch.setCell _ _ _ (.inl (hF _ (.inl rfl)))).trans (Touch.drewN _ 1))
          have hgp : g ≠ p := HBX0.out.ne_ HE0.out.head (by decide)
          have HBX1 : Hid (Blk X1 g 240 (chgCells L.addr c).toArray) := by
            rw [hX1]
            exact (HBX0.out.far (p := ⟨p, 1, none⟩) hgp _).drew
          clear hX1 y1 y2 z1 z1f z2 hus hsv hgp hsx hpx hlp HYB HYB1
          clear zj hnj
          have HDX : Hid (DirAt (X1.alloc (.cells #[.string ⟨nm.toArray⟩, .pointer none] 240)) L.addr L.nowM T.now) := HE.out.now.keep (Below.heap_alloc _ _ _ HE.out.now.lt)
          have HBX : Hid (Blk (X1.alloc (.cells #[.string ⟨nm.toArray⟩, .pointer none] 240)) X1.heap.size 240 (chgCells L.addr [(nm, none)]).toArray) := Blk.new _ _ _
          have HO1 : Hid (okC L.addr [(nm, none)]) := by
            intro s hs; simp at hs; subst hs; exact ⟨hnm, hto⟩
          go_region_with (go_at_call 81; refine (apply_any L.nowM X1.heap.size T.now L.addr [(nm, none)] _ (by exact HDX.out) (by exact HBX.out) HE.out.nodup HO1.out HS1.out).mono ?_; rintro e w2 ⟨rfl, hd2, ht2⟩)
          all_goals (obtain ⟨hz1, hz2, hz3⟩ := ch_close (Y := _) HE.out HTX1.out hF HBX1.out (by first | exact (((Below.refl _ _).alloc (Nat.le_refl _) _).drew) | exact ((((Below.refl _ _).alloc (Nat.le_refl _) _).drew).drew)) hd2 ht2; rw [← HS.out] at hz1; have HZ1 := Lib.hid hz1; have HZ2 := Lib.hid hz2; have HZ3 := Lib.hid hz3; clear hd2 ht2 hz1 hz2 hz3)
          all_goals go_wp2
          all_goals go_roundw
          all_goals first | (case rel => exact ⟨k + 1, by omega, by go_num, HZ1.out, HZ2.out, HZ3.out⟩) | skip
          all_goals (simp [intOf]; omega)
      | some i =>
        simp only [ptrO] at x2
        cases hg : dget T.now nm with
        | none =>
          have HG := Lib.hid hg; clear hg
          have hDW : DrvAt (wr.alloc (.cells #[.string ⟨nm.toArray⟩, .pointer (some ⟨adrOf L.addr i, 0, none⟩)] 240)) p T L := HDK.out.keep fun q hq => Below.heap_alloc _ _ _ (HDK.out.foot_lt hq)
          have hlk : ∀ n, (Instr.lookup 135 (.map (some L.nowM)) (.string ⟨nm.toArray⟩) false).run Tryz.prog ((wr.alloc (.cells #[.string ⟨nm.toArray⟩, .pointer (some ⟨adrOf L.addr i, 0, none⟩)] 240)).drewN n) = .ok (ptrO L.addr (dget T.now nm)) ((wr.alloc (.cells #[.string ⟨nm.toArray⟩, .pointer (some ⟨adrOf L.addr i, 0, none⟩)] 240)).drewN n) :=
            fun n => DirAt.lookup (w := (wr.alloc (.cells #[.string ⟨nm.toArray⟩, .pointer (some ⟨adrOf L.addr i, 0, none⟩)] 240)).drewN n) hDW.now ⟨nm.toArray⟩ (by simpa [ByteArray.size] using hnm)
          rw [HG.out] at hlk
          simp only [ptrO] at hlk
          have HDW := Lib.hid hDW; clear hDW
          go_wp2
          go_quiet (fail)
          refine exit_world fun X hX => ?_
          have HE0 : Hid (DrvAt X p T L) := by rw [hX]; exact HDW.out.keep fun _ _ => rfl
          have HYB : Hid (Blk X wr.heap.size 240 #[.string ⟨nm.toArray⟩, .pointer (some ⟨adrOf L.addr i, 0, none⟩)]) := by rw [hX]; exact (Blk.new wr _ _).drewN _
          have y1 : X.cell? ⟨wr.heap.size, 0, none⟩ = some (.string ⟨nm.toArray⟩) := HYB.out.cell 0
          have y2 : X.cell? ⟨wr.heap.size, 1, none⟩ = some (.pointer (some ⟨adrOf L.addr i, 0, none⟩)) := HYB.out.cell 1
          have hsx : wr.heap.size < X.heap.size := by rw [hX]; simp
          have HTX : Hid (Touch F w X) := by rw [hX]; exact (HTK.out.trans (Touch.alloc _ _)).trans (Touch.drewN _ _)
          have HBX0 : Hid (Blk X g 240 (chgCells L.addr c).toArray) := by rw [hX]; exact (HBK.out.alloc _).drewN _
          have z1 : X.cell? ⟨p, 1, none⟩ = some (.int .i64 T.used) := HE0.out.head.cell 1
          have z1f : X.frozen? ⟨p, 1, none⟩ = false := HE0.out.head.frozen 1
          have z2 : X.cell? ⟨p, 2, none⟩ = some (.map (some L.nowM)) := HE0.out.head.cell 2
          have hpx : p < X.heap.size := HE0.out.head.lt
          clear hX h2 hlk HDW x1 x2
          have hil : i < T.bodies.length := by rw [← HE0.out.la]; exact hto i rfl
          obtain ⟨ai, ci, hvi, _⟩ := own_shape (HE0.out.data i hil)
          have zi : X.cell? ⟨adrOf L.addr i, 0, none⟩ = some (.slice ai (T.len i) ci) := by have := (HE0.out.body i hil).cell 0; rw [hvi] at this; exact this
          have hni : adrOf L.addr i ≠ p := (HE0.out.body i hil).ne_ HE0.out.head (by decide)
          have hli := HHTL.out i
          have HVI := Lib.hid hvi; clear hvi
          go_wp2
          all_goals go_region
          all_goals go_wp2
          refine wp_world fun X1 hX1 => ?_
          have hus : (T.chStp (nm, (some i))).used = T.used + ↑(T.len i) := by
            show T.used - T.lenO (dget T.now nm) + T.lenO (some i) = _
            rw [HG.out]; simp [Drv.lenO]
          have HE : Hid (DrvAt X1 p { T with used := (T.chStp (nm, (some i))).used } L) := by
            rw [hus, hX1]
            exact HE0.out.setUsed1 _
          have hlp : wr.heap.size ≠ p := by omega
          have HYB1 : Hid (Blk X1 wr.heap.size 240 #[.string ⟨nm.toArray⟩, .pointer (some ⟨adrOf L.addr i, 0, none⟩)]) := by
            rw [hX1]
            exact (HYB.out.far (p := ⟨p, 1, none⟩) hlp _).drew
          have v1 : X1.cell? ⟨wr.heap.size, 0, none⟩ = some (.string ⟨nm.toArray⟩) := HYB1.out.cell 0
          have v2 : X1.cell? ⟨wr.heap.size, 1, none⟩ = some (.pointer (some ⟨adrOf L.addr i, 0, none⟩)) := HYB1.out.cell 1
          have v3 : X1.cell? ⟨p, 2, none⟩ = some (.map (some L.nowM)) := HE.out.head.cell 2
          have hsv : X1.heap.size = X.heap.size := by rw [hX1]; simp [World.setCell]
          have hwx1 : wr.heap.size < X1.heap.size := by omega
          have hpx1 : p < X1.heap.size := by omega
          have HTX1 : Hid (Touch F w X1) := by
            rw [hX1]
            exact HTX.out.trans ((Touch.setCell _ _ _ (.inl (hF _ (.inl rfl)))).trans (Touch.drewN _ 1))
          have hgp : g ≠ p := HBX0.out.ne_ HE0.out.head (by decide)
          have HBX1 : Hid (Blk X1 g 240 (chgCells L.addr c).toArray) := by
            rw [hX1]
            exact (HBX0.out.far (p := ⟨p, 1, none⟩) hgp _).drew
          clear hX1 y1 y2 z1 z1f z2 hus hsv hgp hsx hpx hlp HYB HYB1
          clear zi hni
          have HDX : Hid (DirAt (X1.alloc (.cells #[.string ⟨nm.toArray⟩, .pointer (some ⟨adrOf L.addr i, 0, none⟩)] 240)) L.addr L.nowM T.now) := HE.out.now.keep (Below.heap_alloc _ _ _ HE.out.now.lt)
          have HBX : Hid (Blk (X1.alloc (.cells #[.string ⟨nm.toArray⟩, .pointer (some ⟨adrOf L.addr i, 0, none⟩)] 240)) X1.heap.size 240 (chgCells L.addr [(nm, (some i))]).toArray) := Blk.new _ _ _
          have HO1 : Hid (okC L.addr [(nm, (some i))]) := by
            intro s hs; simp at hs; subst hs; exact ⟨hnm, hto⟩
          go_region_with (go_at_call 81; refine (apply_any L.nowM X1.heap.size T.now L.addr [(nm, (some i))] _ (by exact HDX.out) (by exact HBX.out) HE.out.nodup HO1.out HS1.out).mono ?_; rintro e w2 ⟨rfl, hd2, ht2⟩)
          all_goals (obtain ⟨hz1, hz2, hz3⟩ := ch_close (Y := _) HE.out HTX1.out hF HBX1.out (by first | exact (((Below.refl _ _).alloc (Nat.le_refl _) _).drew) | exact ((((Below.refl _ _).alloc (Nat.le_refl _) _).drew).drew)) hd2 ht2; rw [← HS.out] at hz1; have HZ1 := Lib.hid hz1; have HZ2 := Lib.hid hz2; have HZ3 := Lib.hid hz3; clear hd2 ht2 hz1 hz2 hz3)
          all_goals go_wp2
          all_goals go_roundw
          all_goals first | (case rel => exact ⟨k + 1, by omega, by go_num, HZ1.out, HZ2.out, HZ3.out⟩) | skip
          all_goals (simp [intOf]; omega)
        | some j =>
          have HG := Lib.hid hg; clear hg
          have hDW : DrvAt (wr.alloc (.cells #[.string ⟨nm.toArray⟩, .pointer (some ⟨adrOf L.addr i, 0, none⟩)] 240)) p T L := HDK.out.keep fun q hq => Below.heap_alloc _ _ _ (HDK.out.foot_lt hq)
          have hlk : ∀ n, (Instr.lookup 135 (.map (some L.nowM)) (.string ⟨nm.toArray⟩) false).run Tryz.prog ((wr.alloc (.cells #[.string ⟨nm.toArray⟩, .pointer (some ⟨adrOf L.addr i, 0, none⟩)] 240)).drewN n) = .ok (ptrO L.addr (dget T.now nm)) ((wr.alloc (.cells #[.string ⟨nm.toArray⟩, .pointer (some ⟨adrOf L.addr i, 0, none⟩)] 240)).drewN n) :=
            fun n => DirAt.lookup (w := (wr.alloc (.cells #[.string ⟨nm.toArray⟩, .pointer (some ⟨adrOf L.addr i, 0, none⟩)] 240)).drewN n) hDW.now ⟨nm.toArray⟩ (by simpa [ByteArray.size] using hnm)
          rw [HG.out] at hlk
          simp only [ptrO] at hlk
          have HDW := Lib.hid hDW; clear hDW
          go_wp2
          go_quiet (fail)
          refine exit_world fun X hX => ?_
          have HE0 : Hid (DrvAt X p T L) := by rw [hX]; exact HDW.out.keep fun _ _ => rfl
          have HYB : Hid (Blk X wr.heap.size 240 #[.string ⟨nm.toArray⟩, .pointer (some ⟨adrOf L.addr i, 0, none⟩)]) := by rw [hX]; exact (Blk.new wr _ _).drewN _
          have y1 : X.cell? ⟨wr.heap.size, 0, none⟩ = some (.string ⟨nm.toArray⟩) := HYB.out.cell 0
          have y2 : X.cell? ⟨wr.heap.size, 1, none⟩ = some (.pointer (some ⟨adrOf L.addr i, 0, none⟩)) := HYB.out.cell 1
          have hsx : wr.heap.size < X.heap.size := by rw [hX]; simp
          have HTX : Hid (Touch F w X) := by rw [hX]; exact (HTK.out.trans (Touch.alloc _ _)).trans (Touch.drewN _ _)
          have HBX0 : Hid (Blk X g 240 (chgCells L.addr c).toArray) := by rw [hX]; exact (HBK.out.alloc _).drewN _
          have z1 : X.cell? ⟨p, 1, none⟩ = some (.int .i64 T.used) := HE0.out.head.cell 1
          have z1f : X.frozen? ⟨p, 1, none⟩ = false := HE0.out.head.frozen 1
          have z2 : X.cell? ⟨p, 2, none⟩ = some (.map (some L.nowM)) := HE0.out.head.cell 2
          have hpx : p < X.heap.size := HE0.out.head.lt
          clear hX h2 hlk HDW x1 x2
          have hjl : j < T.bodies.length := by rw [← HE0.out.la]; exact HE0.out.now.dget_lt nm hnm HG.out
          obtain ⟨aj, cj, hvj, _⟩ := own_shape (HE0.out.data j hjl)
          have zj : X.cell? ⟨adrOf L.addr j, 0, none⟩ = some (.slice aj (T.len j) cj) := by have := (HE0.out.body j hjl).cell 0; rw [hvj] at this; exact this
          have hnj : adrOf L.addr j ≠ p := (HE0.out.body j hjl).ne_ HE0.out.head (by decide)
          have hlj := HHTL.out j
          have HVJ := Lib.hid hvj; clear hvj
          have hil : i < T.bodies.length := by rw [← HE0.out.la]; exact hto i rfl
          obtain ⟨ai, ci, hvi, _⟩ := own_shape (HE0.out.data i hil)
          have zi : X.cell? ⟨adrOf L.addr i, 0, none⟩ = some (.slice ai (T.len i) ci) := by have := (HE0.out.body i hil).cell 0; rw [hvi] at this; exact this
          have hni : adrOf L.addr i ≠ p := (HE0.out.body i hil).ne_ HE0.out.head (by decide)
          have hli := HHTL.out i
          have HVI := Lib.hid hvi; clear hvi
          go_wp2
          go_region
          all_goals go_wp2
          all_goals go_region
          all_goals go_wp2
          refine wp_world fun X1 hX1 => ?_
          have hus : (T.chStp (nm, (some i))).used = T.used - ↑(T.len j) + ↑(T.len i) := by
            show T.used - T.lenO (dget T.now nm) + T.lenO (some i) = _
            rw [HG.out]; simp [Drv.lenO]
          have HE : Hid (DrvAt X1 p { T with used := (T.chStp (nm, (some i))).used } L) := by
            rw [hus, hX1]
            exact HE0.out.setUsed2 _ _
          have hlp : wr.heap.size ≠ p := by omega
          have HYB1 : Hid (Blk X1 wr.heap.size 240 #[.string ⟨nm.toArray⟩, .pointer (some ⟨adrOf L.addr i, 0, none⟩)]) := by
            rw [hX1]
            exact ((HYB.out.far (p := ⟨p, 1, none⟩) hlp _).far (p := ⟨p, 1, none⟩) hlp _).drew.drew
          have v1 : X1.cell? ⟨wr.heap.size, 0, none⟩ = some (.string ⟨nm.toArray⟩) := HYB1.out.cell 0
          have v2 : X1.cell? ⟨wr.heap.size, 1, none⟩ = some (.pointer (some ⟨adrOf L.addr i, 0, none⟩)) := HYB1.out.cell 1
          have v3 : X1.cell? ⟨p, 2, none⟩ = some (.map (some L.nowM)) := HE.out.head.cell 2
          have hsv : X1.heap.size = X.heap.size := by rw [hX1]; simp [World.setCell]
          have hwx1 : wr.heap.size < X1.heap.size := by omega
          have hpx1 : p < X1.heap.size := by omega
          have HTX1 : Hid (Touch F w X1) := by
            rw [hX1]
            exact HTX.out.trans (((Touch.setCell _ _ _ (.inl (hF _ (.inl rfl)))).trans (Touch.setCell _ _ _ (.inl (.inl (hF _ (.inl rfl)))))).trans (Touch.drewN _ 2))
          have hgp : g ≠ p := HBX0.out.ne_ HE0.out.head (by decide)
          have HBX1 : Hid (Blk X1 g 240 (chgCells L.addr c).toArray) := by
            rw [hX1]
            exact ((HBX0.out.far (p := ⟨p, 1, none⟩) hgp _).far (p := ⟨p, 1, none⟩) hgp _).drew.drew
          clear hX1 y1 y2 z1 z1f z2 hus hsv hgp hsx hpx hlp HYB HYB1
          clear zj hnj
          clear zi hni
          have HDX : Hid (DirAt (X1.alloc (.cells #[.string ⟨nm.toArray⟩, .pointer (some ⟨adrOf L.addr i, 0, none⟩)] 240)) L.addr L.nowM T.now) := HE.out.now.keep (Below.heap_alloc _ _ _ HE.out.now.lt)
          have HBX : Hid (Blk (X1.alloc (.cells #[.string ⟨nm.toArray⟩, .pointer (some ⟨adrOf L.addr i, 0, none⟩)] 240)) X1.heap.size 240 (chgCells L.addr [(nm, (some i))]).toArray) := Blk.new _ _ _
          have HO1 : Hid (okC L.addr [(nm, (some i))]) := by
            intro s hs; simp at hs; subst hs; exact ⟨hnm, hto⟩
          go_region_with (go_at_call 81; refine (apply_any L.nowM X1.heap.size T.now L.addr [(nm, (some i))] _ (by exact HDX.out) (by exact HBX.out) HE.out.nodup HO1.out HS1.out).mono ?_; rintro e w2 ⟨rfl, hd2, ht2⟩)
          all_goals (obtain ⟨hz1, hz2, hz3⟩ := ch_close (Y := _) HE.out HTX1.out hF HBX1.out (by first | exact (((Below.refl _ _).alloc (Nat.le_refl _) _).drew) | exact ((((Below.refl _ _).alloc (Nat.le_refl _) _).drew).drew)) hd2 ht2; rw [← HS.out] at hz1; have HZ1 := Lib.hid hz1; have HZ2 := Lib.hid hz2; have HZ3 := Lib.hid hz3; clear hd2 ht2 hz1 hz2 hz3)
          all_goals go_wp2
          all_goals go_roundw
          all_goals first | (case rel => exact ⟨k + 1, by omega, by go_num, HZ1.out, HZ2.out, HZ3.out⟩) | skip
          all_goals (simp [intOf]; omega)
    · have hkl : k = len := by omega
      subst hkl
      have hck : c.take k = c := List.take_of_length_le (by rw [HLEN.out]; exact Nat.le_refl _)
      rw [hck] at hdk
      clear hck
      have hpb := Drv.chAll_bodies S c
      obtain ⟨T, hT⟩ : ∃ T, T = S.chAll c := ⟨_, rfl⟩
      rw [← hT] at hdk hpb
      have hpdT : T.pending.length ≤ 2199023254000 := by rw [hpb.2.2.2]; exact HPD.out
      have hpl : p < wr.heap.size := hdk.head.lt
      have h4 : wr.cell? ⟨p, 4, none⟩ = some L.pv := hdk.head.cell 4
      have HDK := Lib.hid hdk
      have HBK := Lib.hid hbk
      have HTT := Lib.hid hT
      have HPT := Lib.hid hpdT
      clear hdk hbk hT hpb hpdT
      have hLc := HLEN.out
      have HLc := Lib.hid hLc; clear hLc
      go_wp2_with (at_builtin; go_must (refine wpList_append_any _ rfl (.tmp 75) (.tmp 77) 136 rfl 0 175 i114 _ 1 24 Tryz.underlying136 hi114 hz0 hz1 hz2 rfl (by omega) _ T.pending.length _ rfl (HDK.out.pend.alloc _) (wr.heap.size + 1) (some ⟨wr.heap.size, 0, none⟩) 1 1 [.slice (some ⟨g, 0, none⟩) k k] rfl (by exact reads_blk (t := 175) (blk_last _ _ _ _ rfl) (by omega) rfl) (by intro u hu; simp at hu; subst hu; rfl) (by have := HPT.out; simp only [maxLen]; omega) (by have := HPT.out; omega) (by omega) ?_); intro v1 w1 hown1 hg1 hat1; obtain ⟨a1, c1, rfl, _⟩ := own_shape hown1; go_must (have hDW : DrvAt (wr.alloc (.cells #[.slice (some ⟨g, 0, none⟩) k k] 175)) p T L := HDK.out.keep fun q hq => Below.heap_alloc _ _ _ (HDK.out.foot_lt hq); have hpw : Blk w1 p 138 _ := hDW.head.grown hg1 (fun e => own_blk_ne hDW.pend hDW.head (by decide) e.symm); have p4 : w1.cell? ⟨p, 4, none⟩ = some L.pv := hpw.cell 4; have p4f : w1.frozen? ⟨p, 4, none⟩ = false := hpw.frozen 4; have HDW := Lib.hid hDW; have HOWN := Lib.hid hown1; have HG1 := Lib.hid hg1; have HAT := Lib.hid hat1; clear hDW hown1 hg1 hat1 hpw))
      have hiv : innerV g c = .slice (some ⟨g, 0, none⟩) k k := by unfold innerV; rw [HLc.out]
      have HFIN := HDW.out.setPend (c := c) (v := .slice a1 (T.pending.length + 1) c1) ((HBK.out.alloc _)) (by rw [hiv]; exact HOWN.out) HG1.out HOK.out
      go_end0
      refine ⟨rfl, ⟨{ L with pv := .slice a1 (T.pending.length + 1) c1, inner := L.inner ++ [g] }, rfl, ?_, ?_⟩, ?_⟩
      · have e : S.change c = { T with pending := T.pending ++ [c] } := by rw [HTT.out]; rfl
        rw [e]; exact HFIN
      · rintro q (h | h | h | h | h | h | h)
        · exact .inl (hF _ (.inl h))
        · exact .inl (hF _ (.inr (.inl h)))
        · exact .inl (hF _ (.inr (.inr (.inl h))))
        · exact .inl (hF _ (.inr (.inr (.inr (.inl h)))))
        · exact .inl (hF _ (.inr (.inr (.inr (.inr (.inl h))))))
        · by_cases hq : q < w.heap.size
          · refine .inl ?_
            rcases HAT.out with e | e
            · exact hF _ (.inr (.inr (.inr (.inr (.inr (.inl (e.symm.trans h)))))))
            · exfalso
              rw [e] at h; injection h with h
              have : wr.heap.size + 1 = q := by simpa using h
              omega
          · refine .inr ⟨by omega, ?_⟩
            have := (HOWN.out.lt q h).2
            simpa [World.setCell] using this
        · rcases List.mem_append.1 h with h | h
          · exact .inl (hF _ (.inr (.inr (.inr (.inr (.inr (.inr h)))))))
          · simp at h; subst h; exact .inl hFg
      · have t1 : Touch F w w1 := (HTK.out.trans (Touch.alloc _ _)).trans (Touch.of_grown HG1.out (fun q hq => .inl (hF _ (.inr (.inr (.inr (.inr (.inr (.inl hq)))))))))
        exact t1.trans (Touch.setCell _ _ _ (Or.inl (hF _ (Or.inl rfl))))
end Go.Proofs.YtcbebefdbdppdaaGreat
namespace Go.Proofs.YtcbebefdbdppdaaGreat
open Go.RowKit Go.Maps
section
variable {w w' : World} {q : Nat} {tq : TypeId} {cq : Array Value}
theorem far_dir (hq : Blk w q tq cq) (hf : ∀ k, k ≠ q → w'.heap[k]? = w.heap[k]?) {addr : List Nat} {b : Nat} {D : Dir} (h : DirAt w addr b D) : DirAt w' addr b D := by
  refine h.keep (hf b ?_)
  rintro rfl
  obtain ⟨es, clock, h1, _⟩ := h
  unfold Blk at hq; rw [h1] at hq; injection hq with hq; cases hq
theorem far_blk (hq : Blk w q tq cq) (hf : ∀ k, k ≠ q → w'.heap[k]? = w.heap[k]?) {g : Nat} {t : TypeId} {cs : Array Value} (h : Blk w g t cs) (hne : t ≠ tq) : Blk w' g t cs :=
  (hf g (h.ne_ hq hne)).trans h
theorem far_row (hq : Blk w q tq cq) (hf : ∀ k, k ≠ q → w'.heap[k]? = w.heap[k]?) {base : Nat} {e : TypeId} {n : Nat} {v : Value} {xs : List Value} (h : w.ownsRow base e 1 v n xs) (hne : e ≠ tq) : w'.ownsRow base e 1 v n xs :=
  ownsRow_keep h fun k hk => hf k (fun e' => own_blk_ne h hq hne (by rw [hk, e']))
end
theorem adr_ne {addr : List Nat} (hn : addr.Nodup) {i j : Nat} (hi : i < addr.length) (hj : j < addr.length) (hij : i ≠ j) : adrOf addr i ≠ adrOf addr j := by
  unfold adrOf
  simp only [List.getD, List.getElem?_eq_getElem hi, List.getElem?_eq_getElem hj, Option.getD_some]
  intro e
  rcases Nat.lt_or_gt_of_ne hij with h | h
  · exact (List.pairwise_iff_getElem.1 hn) i j hi hj h e
  · exact (List.pairwise_iff_getElem.1 hn) j i hj hi h e.symm
theorem Drv.setBody_same (S : Drv) {i : Nat} (h : i < S.bodies.length) (B : Body) : (S.setBody i B).body i = B := by simp [Drv.setBody, Drv.body, List.getD, h]
theorem Drv.setBody_other (S : Drv) {i j : Nat} (h : j ≠ i) (B : Body) : (S.setBody i B).body j = S.body j := by
  simp [Drv.setBody, Drv.body, List.getD, Ne.symm h]
theorem Drv.setBody_length (S : Drv) (i : Nat) (B : Body) : (S.setBody i B).bodies.length = S.bodies.length := by simp [Drv.setBody]
section
variable {w w1 : World} {p : Nat} {S : Drv} {L : Lay}
theorem DrvAt.setSafe (h : DrvAt w p S L) {i : Nat} (hi : i < S.bodies.length) (n : Nat) :
    DrvAt (w.setCell ⟨L.adr i, 1, none⟩ (.int .i64 n)) p (S.setBody i ⟨(S.body i).data, n⟩) L := by
  have hq := h.body i hi
  have hf : ∀ k, k ≠ L.adr i → (w.setCell ⟨L.adr i, 1, none⟩ (.int .i64 n)).heap[k]? = w.heap[k]? := fun k hk => Below.heap_setCell w _ _ k hk
  exact {
    head := far_blk hq hf h.head (by decide)
    now := far_dir hq hf h.now
    kept := far_dir hq hf h.kept
    ne := h.ne, nodup := h.nodup
    la := by rw [Drv.setBody_length]; exact h.la
    lv := by rw [Drv.setBody_length]; exact h.lv
    body := fun j hj => by
      rw [Drv.setBody_length] at hj
      by_cases e : j = i
      · subst e; rw [Drv.setBody_same _ hi]; exact hq.set_ 1 _
      · rw [Drv.setBody_other _ e]
        exact (hf _ (adr_ne h.nodup (by rw [h.la]; exact hj) (by rw [h.la]; exact hi) e)).trans (h.body j hj)
    data := fun j hj => by
      rw [Drv.setBody_length] at hj
      have e : ((S.setBody i ⟨(S.body i).data, n⟩).body j).data = (S.body j).data := by
        by_cases e : j = i
        · subst e; rw [Drv.setBody_same _ hi]
        · rw [Drv.setBody_other _ e]
      have e2 : (S.setBody i ⟨(S.body i).data, n⟩).len j = S.len j := by unfold Drv.len; rw [e]
      rw [e, e2]
      exact far_row hq hf (h.data j hj) (by decide)
    rows := fun a b ha hb hab => h.rows a b (by rw [Drv.setBody_length] at ha; exact ha) (by rw [Drv.setBody_length] at hb; exact hb) hab
    pend := far_row hq hf h.pend (by decide)
    li := h.li, pok := h.pok
    inner := fun j hj => far_blk hq hf (h.inner j hj) (by decide) }
theorem val_set (L : Lay) {i j : Nat} (hi : i < L.vals.length) (v : Value) : (Lay.val { L with vals := L.vals.set i v } j) = if j = i then v else L.val j := by
  unfold Lay.val
  by_cases e : j = i
  · subst e; simp [List.getD, hi]
  · simp [List.getD, Ne.symm e, e]
theorem DrvAt.setData (h : DrvAt w p S L) {i : Nat} (hi : i < S.bodies.length) {v : Value} {bs : List UInt8} (ho : w1.ownsRow 0 5 1 v bs.length (bs.map B8)) (hg : w.grownBy w1 (L.val i).ownBlock)
    (hat : v.ownBlock = (L.val i).ownBlock ∨ ∀ k, v.ownBlock = some k → w.heap.size ≤ k) :
    DrvAt (w1.setCell ⟨L.adr i, 0, none⟩ v) p (S.setBody i ⟨bs, (S.body i).safe⟩) { L with vals := L.vals.set i v } := by
  have hil : i < L.vals.length := by rw [h.lv]; exact hi
  have hrow := h.data i hi
  have dirs : ∀ {b : Nat} {D : Dir}, DirAt w L.addr b D → DirAt w1 L.addr b D := by
    intro b D h1
    refine h1.keep (hg.block b h1.lt ?_)
    obtain ⟨es, clock, h2, _⟩ := h1
    intro e
    rcases hrow.2 with ⟨e2, _⟩ | ⟨g', cap, cur, e2, _, hh, _⟩
    · rw [e2] at e; simp [Value.ownBlock] at e
    · rw [e2] at e
      have : b = g' := by simpa [Value.ownBlock] using e
      subst this; rw [h2] at hh; injection hh with hh; cases hh
  have blks : ∀ {b : Nat} {t : TypeId} {cs : Array Value}, Blk w b t cs → 5 ≠ t → Blk w1 b t cs := fun h1 hne => h1.grown hg (fun e => own_blk_ne hrow h1 hne e.symm)
  have hq : Blk w1 (L.adr i) 151 #[L.val i, .int .i64 (S.body i).safe] := blks (h.body i hi) (by decide)
  have hf : ∀ k, k ≠ L.adr i → (w1.setCell ⟨L.adr i, 0, none⟩ v).heap[k]? = w1.heap[k]? := fun k hk => Below.heap_setCell w1 _ _ k hk
  have otherRow : ∀ j, j < S.bodies.length → j ≠ i → w1.ownsRow 0 5 1 (L.val j) (S.len j) ((S.body j).data.map B8) := fun j hj e =>
    (h.data j hj).kept hg (by rcases h.rows j i hj hi e with h1 | h1; exact .inl h1; exact .inr h1)
  have newNe : ∀ j, j < S.bodies.length → j ≠ i → (L.val j).ownBlock = none ∨ (L.val j).ownBlock ≠ v.ownBlock := by
    intro j hj e
    rcases hat with h1 | h1
    · rw [h1]; exact h.rows j i hj hi e
    · cases hb : (L.val j).ownBlock with
      | none => exact .inl rfl
      | some k =>
        refine .inr fun e2 => ?_
        have h2 := h1 k e2.symm
        have h3 := ((h.data j hj).lt k hb).2
        omega
  exact {
    head := far_blk hq hf (blks h.head (by decide)) (by decide)
    now := far_dir hq hf (dirs h.now)
    kept := far_dir hq hf (dirs h.kept)
    ne := h.ne, nodup := h.nodup
    la := by rw [Drv.setBody_length]; exact h.la
    lv := by rw [Drv.setBody_length, List.length_set]; exact h.lv
    body := fun j hj => by
      rw [Drv.setBody_length] at hj
      rw [val_set L hil]
      by_cases e : j = i
      · subst e; rw [Drv.setBody_same _ hi, if_pos rfl]; exact hq.set_ 0 _
      · rw [Drv.setBody_other _ e, if_neg e]
        exact (hf _ (adr_ne h.nodup (by rw [h.la]; exact hj) (by rw [h.la]; exact hi) e)).trans (blks (h.body j hj) (by decide))
    data := fun j hj => by
      rw [Drv.setBody_length] at hj
      rw [val_set L hil]
      unfold Drv.len
      by_cases e : j = i
      · subst e; rw [Drv.setBody_same _ hi, if_pos rfl]; exact far_row hq hf ho (by decide)
      · rw [Drv.setBody_other _ e, if_neg e]; exact far_row hq hf (otherRow j hj e) (by decide)
    rows := fun a b ha hb hab => by
      rw [Drv.setBody_length] at ha hb
      rw [val_set L hil, val_set L hil]
      by_cases ea : a = i
      · subst ea
        rw [if_pos rfl, if_neg (Ne.symm hab)]
        rcases newNe b hb (Ne.symm hab) with h1 | h1
        · rw [h1]
          cases v.ownBlock with
          | none => exact .inl rfl
          | some k => exact .inr (by simp)
        · exact .inr (Ne.symm h1)
      · rw [if_neg ea]
        by_cases eb : b = i
        · subst eb; rw [if_pos rfl]; exact newNe a ha ea
        · rw [if_neg eb]; exact h.rows a b ha hb hab
    pend := far_row hq hf (h.pend.kept hg (own_ne h.pend hrow (by decide))) (by decide)
    li := h.li, pok := h.pok
    inner := fun j hj => far_blk hq hf (blks (h.inner j hj) (by decide)) (by decide) }
theorem chgCells_more (addr : List Nat) (b : Nat) (c : List Stp) (h : okC addr c) : chgCells (addr ++ [b]) c = chgCells addr c := by
  unfold chgCells
  induction c with
  | nil => rfl
  | cons s c ih =>
    rw [List.flatMap_cons, List.flatMap_cons, ih (fun x hx => h x (List.mem_cons_of_mem _ hx))]
    congr 1
    cases hi : s.2 with
    | none => rfl
    | some i =>
      have := (h s List.mem_cons_self).2 i hi
      simp only [ptrO, adrOf]
      rw [getD_snoc_lt this]
theorem okC_more {addr : List Nat} {c : List Stp} (h : okC addr c) (more : List Nat) : okC (addr ++ more) c := fun s hs => ⟨(h s hs).1, fun i hi => by have := (h s hs).2 i hi; simp; omega⟩
theorem DrvAt.addBody (h : DrvAt w p S L) :
    DrvAt (w.alloc (.cells #[.slice none 0 0, .int .i64 0] 151)) p { S with bodies := S.bodies ++ [⟨[], 0⟩] } { L with addr := L.addr ++ [w.heap.size], vals := L.vals ++ [.slice none 0 0] } := by
  have hk : ∀ k, k < w.heap.size → (w.alloc (.cells #[.slice none 0 0, .int .i64 0] 151)).heap[k]? = w.heap[k]? := fun k hk => Below.heap_alloc w _ k hk
  have h1 := h.keep (w' := w.alloc (.cells #[.slice none 0 0, .int .i64 0] 151)) fun k hf => hk k (h.foot_lt hf)
  have alt : ∀ i, i < S.bodies.length → Lay.adr { L with addr := L.addr ++ [w.heap.size], vals := L.vals ++ [.slice none 0 0] } i = L.adr i := fun i hi => getD_snoc_lt (by rw [h.la]; exact hi)
  have aeq : Lay.adr { L with addr := L.addr ++ [w.heap.size], vals := L.vals ++ [.slice none 0 0] } S.bodies.length = w.heap.size := by rw [← h.la]; exact getD_snoc_eq
  have vlt : ∀ i, i < S.bodies.length → Lay.val { L with addr := L.addr ++ [w.heap.size], vals := L.vals ++ [.slice none 0 0] } i = L.val i := fun i hi => getD_snoc_lt (by rw [h.lv]; exact hi)
  have veq : Lay.val { L with addr := L.addr ++ [w.heap.size], vals := L.vals ++ [.slice none 0 0] } S.bodies.length = .slice none 0 0 := by rw [← h.lv]; exact getD_snoc_eq
  have blt : ∀ i, i < S.bodies.length → Drv.body { S with bodies := S.bodies ++ [⟨[], 0⟩] } i = S.body i := fun i hi => getD_snoc_lt hi
  have beq : Drv.body { S with bodies := S.bodies ++ [⟨[], 0⟩] } S.bodies.length = ⟨[], 0⟩ := getD_snoc_eq
  have hlast : ∀ i, i < (S.bodies ++ [(⟨[], 0⟩ : Body)]).length → ¬ i < S.bodies.length → i = S.bodies.length := fun i hi hn => by simp at hi; omega
  exact {
    head := h1.head
    now := h1.now.more _
    kept := h1.kept.more _
    ne := h.ne
    nodup := by
      rw [List.nodup_append]
      refine ⟨h.nodup, by simp, fun a ha b hb e => ?_⟩
      simp at hb; subst hb; subst e
      have := h.foot_lt (.inr (.inr (.inr (.inl ha))))
      omega
    la := by simp [h.la]
    lv := by simp [h.lv]
    body := fun i hi => by
      by_cases e : i < S.bodies.length
      · rw [alt i e, vlt i e, blt i e]; exact h1.body i e
      · have := hlast i hi e; subst this; rw [aeq, veq, beq]; exact Blk.new _ _ _
    data := fun i hi => by
      unfold Drv.len
      by_cases e : i < S.bodies.length
      · rw [vlt i e, blt i e]; exact h1.data i e
      · have := hlast i hi e; subst this; rw [veq, beq]; exact World.ownsRow_nil _ _ _ _
    rows := fun a b ha hb hab => by
      by_cases ea : a < S.bodies.length
      · rw [vlt a ea]
        by_cases eb : b < S.bodies.length
        · rw [vlt b eb]; exact h.rows a b ea eb hab
        · have := hlast b hb eb; subst this; rw [veq]
          cases (L.val a).ownBlock with
          | none => exact .inl rfl
          | some k => exact .inr (by simp [Value.ownBlock])
      · have := hlast a ha ea; subst this; rw [veq]; exact .inl rfl
    pend := h1.pend
    li := h.li
    pok := fun c hc => okC_more (h.pok c hc) _
    inner := fun j hj => by
      have hj' : j < S.pending.length := hj
      have hm : S.pending.getD j [] ∈ S.pending := getD_mem _ hj'
      show Blk _ (L.inr j) _ (chgCells (L.addr ++ [w.heap.size]) (S.pending.getD j [])).toArray
      rw [chgCells_more _ _ _ (h.pok _ hm)]; exact h1.inner j hj' }
theorem DrvAt.setKept (h : DrvAt w p S L) {m : Nat} (hm : DirAt w L.addr m S.now) (hne : L.nowM ≠ m) :
    DrvAt ((w.setCell ⟨p, 3, none⟩ (.map (some m))).setCell ⟨p, 4, none⟩ (.slice none 0 0)) p S.syncDir { L with keptM := m, pv := .slice none 0 0, inner := [] } := by
  have hq := h.head
  have hf : ∀ k, k ≠ p → ((w.setCell ⟨p, 3, none⟩ (.map (some m))).setCell ⟨p, 4, none⟩ (.slice none 0 0)).heap[k]? = w.heap[k]? := fun k hk =>
    (Below.heap_setCell _ _ _ k hk).trans (Below.heap_setCell w _ _ k hk)
  exact {
    head := (hq.set_ 3 (.map (some m))).set_ 4 (.slice none 0 0)
    now := far_dir hq hf h.now
    kept := far_dir hq hf hm
    ne := hne, nodup := h.nodup, la := h.la, lv := h.lv
    body := fun i hi => far_blk hq hf (h.body i hi) (by decide)
    data := fun i hi => far_row hq hf (h.data i hi) (by decide)
    rows := h.rows
    pend := World.ownsRow_nil _ _ _ _
    li := rfl
    pok := fun c hc => absurd hc (by simp [Drv.syncDir])
    inner := fun j hj => absurd hj (by simp [Drv.syncDir]) }
end
end Go.Proofs.YtcbebefdbdppdaaGreat

/- cairnlaw14.fit: the shard with blocks of the lengths that its head wants.; drive.Remove, wound.Remove.; atomic.look, each refusal. -/
import Derived.Test.YtcbebefdbdppdaaGreatM26
import Derived.Test.YtcbebefdbdppdaaGreatM28
import Derived.Laws.CopyOwn
import Derived.Test.YtcbebefdbdppdaaGreatM24
namespace Go.Proofs.YtcbebefdbdppdaaGreat
open Go.RowKit Go.Maps

set_option maxRecDepth 100000 in
set_option maxHeartbeats 4000000 in
theorem fit_no (h : Hd) (hs : h.st.length = 8) (hm : h.may ≠ 0) (A : Option Addr) (n c : Nat) (w : World) : Calls Tryz.prog 10 #[shV h (.slice A n c)] w fun e w' => e = .returned (.tuple #[shV h (.slice A n c), .bool false]) ∧ Below w.heap.size w w' := by
  have HCK := Lib.hid fun W => rcheck_any h hs W
  have hcs := hdCells_size hs
  have hone := hd_one h
  unfold shV
  unfold hdV at HCK
  generalize hdCells h = HC at *
  have HCS := Lib.hid hcs
  have HON := Lib.hid hone
  have hme : (h.may == 0) = false := beq_eq_false_iff_ne.2 hm
  obtain ⟨e0, he0⟩ : ∃ e0, e0 = h.may := ⟨_, rfl⟩
  rw [← he0] at HCK hme
  clear hcs hone he0 hm hs
  have hL1 : (loadVar 28 ⟨w.heap.size, 0, none⟩).run Tryz.prog ((w.alloc (.cells (HC.push (.slice A n c)) 31)).alloc (.cells zeroSh 31)) = .ok (.agg HC) ((w.alloc (.cells (HC.push (.slice A n c)) 31)).alloc (.cells zeroSh 31)) := load_head_in ((Blk.new _ _ _).alloc _) HCS.out
  have HB0 : Hid (Below w.heap.size w ((w.alloc (.cells (HC.push (.slice A n c)) 31)).alloc (.cells zeroSh 31))) := Lib.hid (((Below.refl _ w).alloc (Nat.le_refl _) _).alloc (by rw [alloc_size]; omega) _)
  have HK0 : Hid (Blk ((w.alloc (.cells (HC.push (.slice A n c)) 31)).alloc (.cells zeroSh 31)) w.heap.size 31 (HC.push (.slice A n c))) := Lib.hid ((Blk.new _ _ _).alloc _)
  have HZ0 : Hid (Blk ((w.alloc (.cells (HC.push (.slice A n c)) 31)).alloc (.cells zeroSh 31)) (w.heap.size + 1) 31 zeroSh) := Lib.hid (blk_last _ _ _ _ (by rw [alloc_size]))
  go_enter Tryz.func10, Tryz.ntmps10
  go_wp2_with (refine wpList_load_at rfl 28 _ rfl ⟨w.heap.size, 0, none⟩ rfl (.agg HC) hL1 ?_)
  refine (HCK.out _).mono ?_
  rintro e w1 ⟨rfl, hb1⟩
  have hK1 := HK0.out.below hb1 HK0.out.lt
  have hZ1 := HZ0.out.below hb1 HZ0.out.lt
  obtain ⟨W2, hr2, hk2, ht2, _⟩ := store_sh hZ1 rfl (show (HC.push (.slice A n c)).size = 17 by rw [Array.size_push, HCS.out]) (push_one HON.out)
  have hL2 := load_sh hK1 (by rw [Array.size_push, HCS.out])
  have HB2 : Hid (Below w.heap.size w W2) := Lib.hid ((HB0.out.trans (hb1.mono HB0.out.size)).trans (ht2.below (Nat.le_trans HB0.out.size hb1.size) (fun k hk => by rw [hk]; omega)))
  have HL3 := Lib.hid (load_sh hk2 (by rw [Array.size_push, HCS.out]))
  clear hb1 hK1 hZ1 hk2 ht2 hL1
  go_wp2_with (first
    | (refine wpList_load_at rfl 31 _ rfl ⟨w.heap.size, 0, none⟩ rfl (.agg (HC.push (.slice A n c))) hL2 ?_)
    | (refine wpList_store_at rfl 31 _ _ rfl ⟨w.heap.size + 1, 0, none⟩ rfl (.agg (HC.push (.slice A n c))) rfl W2 hr2 ?_))
  exact bodyPost_ret (results_cell2 Tryz.results10 _ ⟨w.heap.size + 1, 0, none⟩ rfl (.agg (HC.push (.slice A n c))) _ _ HL3.out) rfl ⟨rfl, HB2.out⟩
theorem own_of_blk {w : World} {g b n : Nat} {t : TypeId} {xs : List Value} (h : Blk w g t xs.toArray) (hb : b ≤ g) (hl : xs.length = n) (hn : n ≤ maxLen) : w.ownsRow b t 1 (.slice (some ⟨g, 0, none⟩) n n) n xs :=
  ⟨by rw [hl, Nat.mul_one], .inr ⟨g, n, xs.toArray, rfl, hb, h, Nat.le_refl _, hn, by rw [List.size_toArray, hl, Nat.mul_one], by rw [List.take_of_length_le (by show xs.length ≤ _; omega)]⟩⟩
theorem splice_B8 (n : Nat) (x : List UInt8) : ∃ ys : List UInt8, ys.length = n ∧ splice (List.replicate n (Value.int .u8 0)) 0 ((x.take n).map B8) = ys.map B8 := by
  refine ⟨x.take n ++ List.replicate (n - (x.take n).length) 0, by simp; omega, ?_⟩
  unfold splice
  rw [List.take_zero, List.nil_append, Nat.zero_add, List.length_map, List.drop_replicate, List.map_append, List.map_replicate]
  rfl
/-- The head's lengths are those of Sizes. -/
theorem sizes_lens {h : Hd} (hm : h.may = 0) : sizesE h.k h.m h.b h.size = 0 ∧ sizesL h.k h.m h.b h.size = h.lens := by
  have h1 : Hd.shapeOk h.k h.m h.b = true ∧ Hd.fitsE h.k h.b h.size = 0 := by
    unfold Hd.may at hm
    split at hm
    · cases hm
    · rename_i g1
      split at hm
      · cases hm
      · split at hm
        · rename_i g3; exact absurd hm g3
        · rename_i g3; exact ⟨by simpa using g1, by omega⟩
  have h2 : sizesE h.k h.m h.b h.size = 0 := by unfold sizesE; rw [h1.1]; exact h1.2
  exact ⟨h2, by unfold sizesL; rw [if_pos h2]; rfl⟩
set_option maxRecDepth 100000 in
set_option maxHeartbeats 8000000 in
theorem fit_yes (h : Hd) (hs : h.st.length = 8) (hm : h.may = 0) (A : Option Addr) (n c : Nat) (l0 : List (List UInt8)) (w : World) (hb : BlksAt w w.heap.size A n l0) : Calls Tryz.prog 10 #[shV h (.slice A n c)] w fun e w' =>
    ∃ v l, e = .returned (.tuple #[shV h v, .bool true]) ∧ l.map List.length = h.lens ∧ BlkOwn w' w.heap.size v l ∧ Below w.heap.size w w' := by
  have HCK := Lib.hid fun W => rcheck_any h hs W
  have HSZ := Lib.hid fun W => rsizes_any h.k h.m h.b h.size W
  obtain ⟨hz1, hz2⟩ := sizes_lens hm
  rw [hz1, hz2] at HSZ
  rw [hm] at HCK
  have f := Hd.fit_of hm
  have HLB : Hid (h.lens.length ≤ 4096 ∧ ∀ x ∈ h.lens, x ≤ 65536) := Lib.hid (fit_lens f)
  have hc8 : (hdCells h)[8]? = some (.int .i64 h.k) := by
    obtain ⟨a0, a1, a2, a3, a4, a5, a6, a7, hst⟩ := lab_eight hs
    unfold hdCells
    rw [hst]
    rfl
  have hc9 : (hdCells h)[9]? = some (.int .i64 h.m) := by
    obtain ⟨a0, a1, a2, a3, a4, a5, a6, a7, hst⟩ := lab_eight hs
    unfold hdCells
    rw [hst]
    rfl
  have hc10 : (hdCells h)[10]? = some (.int .i64 h.b) := by
    obtain ⟨a0, a1, a2, a3, a4, a5, a6, a7, hst⟩ := lab_eight hs
    unfold hdCells
    rw [hst]
    rfl
  have hc12 : (hdCells h)[12]? = some (.int .i64 h.size) := by
    obtain ⟨a0, a1, a2, a3, a4, a5, a6, a7, hst⟩ := lab_eight hs
    unfold hdCells
    rw [hst]
    rfl
  have hcs := hdCells_size hs
  have hone := hd_one h
  unfold shV
  unfold hdV at HCK
  obtain ⟨L, hL⟩ : ∃ L, L = h.lens := ⟨_, rfl⟩
  rw [← hL] at HSZ HLB ⊢
  generalize hdCells h = HC at *
  obtain ⟨k, hk⟩ : ∃ k, k = h.k := ⟨_, rfl⟩
  obtain ⟨m, hm'⟩ : ∃ m, m = h.m := ⟨_, rfl⟩
  obtain ⟨b, hb'⟩ : ∃ b, b = h.b := ⟨_, rfl⟩
  obtain ⟨sz, hsz⟩ : ∃ sz, sz = h.size := ⟨_, rfl⟩
  rw [← hk] at HSZ hc8
  rw [← hm'] at HSZ hc9
  rw [← hb'] at HSZ hc10
  rw [← hsz] at HSZ hc12
  have HCS := Lib.hid hcs
  have HON := Lib.hid hone
  have HB := Lib.hid hb
  have HCC := Lib.hid (And.intro hc8 (And.intro hc9 (And.intro hc10 hc12)))
  clear hcs hone hm hs hb f hz1 hz2 hk hm' hb' hsz hc8 hc9 hc10 hc12 hL
  have hL1 : (loadVar 28 ⟨w.heap.size, 0, none⟩).run Tryz.prog ((w.alloc (.cells (HC.push (.slice A n c)) 31)).alloc (.cells zeroSh 31)) = .ok (.agg HC) ((w.alloc (.cells (HC.push (.slice A n c)) 31)).alloc (.cells zeroSh 31)) := load_head_in ((Blk.new _ _ _).alloc _) HCS.out
  have HB0 : Hid (Below w.heap.size w ((w.alloc (.cells (HC.push (.slice A n c)) 31)).alloc (.cells zeroSh 31))) := Lib.hid (((Below.refl _ w).alloc (Nat.le_refl _) _).alloc (by rw [alloc_size]; omega) _)
  have HK0 : Hid (Blk ((w.alloc (.cells (HC.push (.slice A n c)) 31)).alloc (.cells zeroSh 31)) w.heap.size 31 (HC.push (.slice A n c))) := Lib.hid ((Blk.new _ _ _).alloc _)
  have HZ0 : Hid (Blk ((w.alloc (.cells (HC.push (.slice A n c)) 31)).alloc (.cells zeroSh 31)) (w.heap.size + 1) 31 zeroSh) := Lib.hid (blk_last _ _ _ _ (by rw [alloc_size]))
  obtain ⟨i5, hi5, hq0, hq1, hq2⟩ := info_parts byteInfo
  obtain ⟨i7, hi7, hv0, hv1, hv2⟩ := info_parts sliceInfoB
  go_enter Tryz.func10, Tryz.ntmps10
  go_wp2_with (refine wpList_load_at rfl 28 _ rfl ⟨w.heap.size, 0, none⟩ rfl (.agg HC) hL1 ?_)
  refine (HCK.out _).mono ?_
  rintro e w1 ⟨rfl, hb1⟩
  have HK1 := Lib.hid (HK0.out.below hb1 HK0.out.lt)
  have HZ1 := Lib.hid (HZ0.out.below hb1 HZ0.out.lt)
  have HB1 : Hid (Below w.heap.size w w1) := Lib.hid (HB0.out.trans (hb1.mono HB0.out.size))
  have hs1 : w.heap.size + 1 < w1.heap.size := HZ1.out.lt
  clear hb1 hL1
  have hpl : ∀ {j : Nat} {u : Value}, j < 16 → HC[j]? = some u → (HC.push (.slice A n c))[j]? = some u := fun hj hu => by
    rw [Array.getElem?_push_lt (by have := HCS.out; omega)]
    rw [Array.getElem?_eq_getElem (by have := HCS.out; omega)] at hu
    exact hu
  have y8 : w1.cell? ⟨w.heap.size, 8, none⟩ = some (.int .i64 k) := (HK1.out.cell 8).trans (hpl (by decide) HCC.out.1)
  have y9 : w1.cell? ⟨w.heap.size, 9, none⟩ = some (.int .i64 m) := (HK1.out.cell 9).trans (hpl (by decide) HCC.out.2.1)
  have y10 : w1.cell? ⟨w.heap.size, 10, none⟩ = some (.int .i64 b) := (HK1.out.cell 10).trans (hpl (by decide) HCC.out.2.2.1)
  have y12 : w1.cell? ⟨w.heap.size, 12, none⟩ = some (.int .i64 sz) := (HK1.out.cell 12).trans (hpl (by decide) HCC.out.2.2.2)
  go_wp2_with fail
  refine (HSZ.out _).mono ?_
  rintro e w2 ⟨vl, rfl, hol, hb2⟩
  obtain ⟨gl, cl, rfl, _⟩ := own_shape hol
  have HOL := Lib.hid hol
  have HK2 := Lib.hid (HK1.out.below hb2 HK1.out.lt)
  have HZ2 := Lib.hid (HZ1.out.below hb2 HZ1.out.lt)
  have HB2 : Hid (Below w.heap.size w w2) := Lib.hid (HB1.out.trans (hb2.mono HB1.out.size))
  have hs2 : w.heap.size + 1 < w2.heap.size := Nat.lt_of_lt_of_le hs1 hb2.size
  clear hol hb2 y8 y9 y10 y12 hpl
  have hL2 := load_head_in HK2.out HCS.out
  have HPS : Hid ((HC.push (.slice none 0 0)).size = 17) := Lib.hid (by rw [Array.size_push, HCS.out])
  have HPO : Hid (∀ v ∈ (HC.push (.slice none 0 0)).toList, v.oneCell' = true) := Lib.hid (push_one HON.out)
  obtain ⟨W3, hr3, hk3, ht3, hsz3⟩ := store_sh (w := w2.alloc (.cells zeroSh 31)) (R := w2.heap.size) (CK := HC.push (.slice none 0 0)) (Blk.new _ _ _) rfl HPS.out HPO.out
  have HBS := Lib.hid (build_shard HCS.out w2)
  have hBS := HBS.out
  go_wp2_with (first
    | (refine wpList_load_at rfl 28 _ rfl ⟨w.heap.size, 0, none⟩ rfl (.agg HC) hL2 ?_)
    | (refine wpList_build_at rfl 31 _ rfl #[(0, .agg HC)] (by simp [Act.eval]; rfl) (.agg (HC.push (.slice none 0 0))) (build_shard HCS.out _) ?_)
    | (refine wpList_store_at rfl 31 _ _ rfl ⟨w2.heap.size, 0, none⟩ rfl (.agg (HC.push (.slice none 0 0))) rfl W3 hr3 ?_)
    | fail)
  have HB3' : Hid (Below w2.heap.size w2 W3) := Lib.hid (((Below.refl _ w2).alloc (Nat.le_refl _) _).trans (ht3.below (by rw [alloc_size]; exact Nat.le_succ _) (fun k hk => Nat.le_of_eq hk.symm)))
  have HK3 := Lib.hid hk3
  have hW3 : w2.heap.size + 1 ≤ W3.heap.size := hk3.lt
  clear hBS hL2 hr3 hk3 ht3 hsz3
  go_loopw [8, 9] (fun s8 _ wr => ∃ (j : Nat) (sv : Value) (l : List (List UInt8)), j ≤ L.length ∧ s8 = .int .i64 (j : Int) ∧ Blk wr w2.heap.size 31 (HC.push sv) ∧ BlkOwn wr W3.heap.size sv l ∧ l.map List.length = L.take j ∧ Touch (fun k => k = w2.heap.size ∨ W3.heap.size ≤ k) W3 wr) (fun s8 _ _ => L.length - (intOf s8).toNat)
  case atStart => exact ⟨0, _, [], Nat.zero_le _, rfl, HK3.out, BlkOwn.nil _ _, rfl, Touch.refl _ _⟩
  case round =>
    obtain ⟨j, sv, l, hj, rfl, hbk, hbo, hml, ht⟩ := hrel
    have HT := Lib.hid ht
    have HBK := Lib.hid hbk
    have HW3 : Hid (W3.heap.size ≤ wr.heap.size) := Lib.hid ht.size
    have hll : l.length = j := by have h9 := congrArg List.length hml; rw [List.length_map, List.length_take] at h9; omega
    have HLL := Lib.hid hll
    have HML := Lib.hid hml
    have HBW : Hid (Below w.heap.size w wr) := Lib.hid ((HB2.out.trans (HB3'.out.mono HB2.out.size)).trans (ht.below (Nat.le_trans HB2.out.size HB3'.out.size) (fun k hk => by rcases hk with h | h <;> have := HB2.out.size <;> omega)))
    have HB2w : Hid (Below w2.heap.size w2 wr) := Lib.hid (HB3'.out.trans (ht.below HB3'.out.size (fun k hk => by rcases hk with h | h <;> omega)))
    obtain ⟨vs, hvs, hve⟩ := hbo.row
    rw [hll] at hvs
    obtain ⟨sa, sc, rfl, _⟩ := own_shape hvs
    have HVS := Lib.hid hvs
    have HVE := Lib.hid hve
    have HBO := Lib.hid hbo
    have y16 : wr.cell? ⟨w.heap.size, 16, none⟩ = some (.slice A n c) := ((HK2.out.below HB2w.out HK2.out.lt).cell 16).trans (push_last HCS.out _)
    have yR : wr.cell? ⟨w2.heap.size, 16, none⟩ = some (.slice sa j sc) := (hbk.cell 16).trans (push_last HCS.out _)
    have hq1' : w.heap.size < wr.heap.size := by have := HB2w.out.size; omega
    have hq2' : w2.heap.size < wr.heap.size := by have := HW3.out; omega
    clear hbk hbo hvs hve hml ht hll
    by_cases hlt : j < L.length
    · have hlt' : (j : Int) < (L.length : Int) := by omega
      have hj0 : (0 : Int) ≤ (j : Int) := Int.natCast_nonneg _
      have HNJ : Hid (j < 4096) := Lib.hid (Nat.lt_of_lt_of_le hlt HLB.out.1)
      have HW : Hid (wrap64 ((j : Int) + 1) = (j : Int) + 1) := Lib.hid (IntWalk.wrap64_in _ (by have := HNJ.out; omega))
      obtain ⟨ad, u, hA, hadB, hu, hcell⟩ := ((Reads.of_own HOL.out).below HB2w.out).at_ hlt
      subst hA
      rw [List.getElem?_map] at hu
      obtain ⟨nL, hnL, rfl⟩ : ∃ nL, L[j]? = some nL ∧ u = lenV nL := by
        cases e : L[j]? with
        | none => rw [e] at hu; cases hu
        | some nL => rw [e] at hu; injection hu with hu; exact ⟨nL, rfl, hu.symm⟩
      unfold lenV at hcell
      have HNL := Lib.hid hnL
      have hnb : nL ≤ 65536 := HLB.out.2 nL (List.mem_of_getElem? hnL)
      have hmk := fun (W : World) => run_make (P := Tryz.prog) W 46 5 i5 _ Tryz.underlying46 hi5 hq0 .i64 .i64 (nL : Int) (nL : Int) (Int.natCast_nonneg _) (Int.le_refl _) (by rw [hq2]; omega) (by omega)
      simp only [Int.toNat_natCast, hq1, Nat.mul_one] at hmk
      have HNB := Lib.hid hnb
      have HMC : Hid (madeCells (Value.int .u8 0).cells nL = (List.replicate nL (Value.int .u8 0)).toArray) := Lib.hid (by rw [← hexC_zero [] nL]; unfold hexC; simp)
      have HGK : Hid (∀ (W4 w5 : World) (o : Obj), Below wr.heap.size wr W4 → (W4.alloc o).grownBy w5 (Value.slice sa j sc).ownBlock → Blk w5 w2.heap.size 31 (HC.push (.slice sa j sc))) := Lib.hid fun W4 w5 o hb hg =>
        ((HBK.out.below hb HBK.out.lt).alloc o).grown hg (fun e => by have := (HVS.out.lt _ e.symm).1; omega)
      have HC5 : Hid (∀ (W4 w5 : World) {o : Obj}, Below wr.heap.size wr W4 → (W4.alloc o).grownBy w5 (Value.slice sa j sc).ownBlock → w5.cell? ⟨w2.heap.size, 16, none⟩ = some (.slice sa j sc) ∧ w5.frozen? ⟨w2.heap.size, 16, none⟩ = false) := Lib.hid fun W4 w5 o hb hg =>
        ⟨((HGK.out W4 w5 o hb hg).cell 16).trans (push_last HCS.out _), (HGK.out W4 w5 o hb hg).frozen 16⟩
      have HEND : Hid (∀ (W4 w5 : World) (v3 : Value) (ys : List UInt8), ys.length = nL → Blk W4 wr.heap.size 5 (ys.map B8).toArray → Below wr.heap.size wr W4 → w5.ownsRow W3.heap.size 46 1 v3 (j + 1) (vs ++ [.slice (some ⟨wr.heap.size, 0, none⟩) nL nL]) → (W4.alloc (.cells #[.slice (some ⟨wr.heap.size, 0, none⟩) nL nL] 46)).grownBy w5 (Value.slice sa j sc).ownBlock →
          ∃ l' : List (List UInt8), Blk (w5.setCell ⟨w2.heap.size, 16, none⟩ v3) w2.heap.size 31 (HC.push v3) ∧ BlkOwn (w5.setCell ⟨w2.heap.size, 16, none⟩ v3) W3.heap.size v3 l' ∧ l'.map List.length = L.take (j + 1) ∧ Touch (fun k => k = w2.heap.size ∨ W3.heap.size ≤ k) W3 (w5.setCell ⟨w2.heap.size, 16, none⟩ v3)) := Lib.hid fun W4 w5 v3 ys hyl hb4 hbe hr hg => by
        have hgk := HGK.out W4 w5 _ hbe hg
        have hw3 := HW3.out
        have hbo := BlkOwn.append (w := W4.alloc (.cells #[.slice (some ⟨wr.heap.size, 0, none⟩) nL nL] 46)) (v := .slice sa j sc) (l := l) (x := ys) (A := some ⟨wr.heap.size, 0, none⟩) (c := nL) (vs := vs)
          ((HBO.out.below hbe).below ((Below.refl _ W4).alloc (Nat.le_refl _) _)) (by rw [HLL.out]; exact (ownsRow_below HVS.out hbe).alloc _)
          (fun j x hx => by obtain ⟨A', c', e, ho⟩ := HVE.out j x hx; exact ⟨A', c', e, (ownsRow_below ho hbe).alloc _⟩)
          (by rw [hyl]; exact (own_of_blk (xs := ys.map B8) hb4 hw3 (by rw [List.length_map, hyl]) (by have := HNB.out; unfold maxLen; omega)).alloc _) (by rw [HLL.out, hyl]; exact hr) hg
        refine ⟨l ++ [ys], ?_, hbo.far hgk (by decide) (by decide) 16 v3, ?_, ?_⟩
        · have h9 := hgk.set_ 16 v3
          rwa [push_set HCS.out] at h9
        · rw [List.map_append, HML.out, List.take_add_one, HNL.out]
          simp [hyl]
        · refine Touch.set (G := fun k => k = w2.heap.size ∨ W3.heap.size ≤ k) ?_ (.inl rfl) v3
          refine (HT.out.trans ((Touch.of_below (hbe.alloc hbe.size _)).mono fun k _ h => .inl h)).trans ((Touch.of_grown hg fun k hk => .inr (HVS.out.lt k hk).1).mono fun k _ h => .inl h)
      by_cases hn : j < n
      · have hn' : (j : Int) < (n : Int) := by omega
        obtain ⟨ad2, x, A2, c2, hA2, hx2, hcl2, hr2⟩ := (HB.out.below HBW.out).at_ hn
        subst hA2
        have hq3 : (ad2.add j).block < wr.heap.size := by
          rw [block_of_add]
          obtain ⟨vs2, hr0, _⟩ := HB.out.rows
          obtain ⟨ad3, e3, hb3, _⟩ := hr0.2 (by omega)
          injection e3 with e3
          rw [e3]; omega
        obtain ⟨ys, hyl, hys⟩ := splice_B8 nL x
        have HYS := Lib.hid (And.intro hyl hys)
        have HR2 := Lib.hid hr2
        have HLT := Lib.hid hlt
        clear hnL hu hadB hyl hys hr2 hx2 hj hlt hnb hn
        have HPOS : Hid (0 < ((x.take nL).map B8).length → (some ⟨wr.heap.size, 0, none⟩ : Option Addr) = some ⟨wr.heap.size, 0, none⟩ ∧ ∃ ad, A2 = some ad ∧ ∀ (i : Nat) (v : Value), ((x.take nL).map B8)[i]? = some v → (wr.alloc (.cells (madeCells #[.int .u8 0] nL) 5)).cell? (ad.add i) = some v) := Lib.hid fun hlen => by
          rw [List.length_map, List.length_take] at hlen
          obtain ⟨ad', e', hb', hc'⟩ := HR2.out.2 (by omega)
          refine ⟨rfl, ad', e', fun i v hv => ?_⟩
          rw [World.cell?_alloc_lt wr _ _ (by rw [block_of_add]; have := HBW.out.size; omega)]
          refine hc' i v ?_
          rw [List.getElem?_map] at hv ⊢
          by_cases hi : i < nL
          · rwa [List.getElem?_take, if_pos hi] at hv
          · rw [List.getElem?_take, if_neg hi] at hv; cases hv
        have HGG : Hid ((wr.alloc (.cells (madeCells #[.int .u8 0] nL) 5)).heap[wr.heap.size]? = some (.cells (List.replicate nL (Value.int .u8 0)).toArray 5 (0, 0))) := Lib.hid (by
          have h9 := Blk.new wr 5 (madeCells (Value.int .u8 0).cells nL)
          have h8 := h9
          unfold Blk at h8
          rw [HMC.out] at h8
          rw [show madeCells #[Value.int .u8 0] nL = madeCells (Value.int .u8 0).cells nL from rfl, HMC.out]
          exact h8)
        have HLEN : Hid (((x.take nL).map B8).length = Nat.min x.length nL ∧ 0 + ((x.take nL).map B8).length ≤ (List.replicate nL (Value.int .u8 0)).length) := Lib.hid ⟨by rw [List.length_map, List.length_take]; exact Nat.min_comm _ _, by rw [List.length_map, List.length_take, List.length_replicate]; omega⟩
        have HONE : Hid (∀ v ∈ (x.take nL).map B8, v.oneCell' = true) := Lib.hid (by intro v hv; obtain ⟨b8, _, rfl⟩ := List.mem_map.1 hv; rfl)
        have HS8 : Hid ((Tryz.prog.info? 5).map (·.size) = some 1) := Lib.hid (by rw [hi5]; exact congrArg some hq1)
        obtain ⟨cs8, hcs8⟩ : ∃ cs8, cs8 = (x.take nL).map B8 := ⟨_, rfl⟩
        rw [← hcs8] at HPOS HLEN HONE HYS
        obtain ⟨z8, hz8⟩ : ∃ z8, z8 = List.replicate nL (Value.int .u8 0) := ⟨_, rfl⟩
        rw [← hz8] at HGG HLEN HYS
        clear hcs8 hz8
        go_wp2_with (first
          | (refine wpList_copy_splice rfl (.tmp 45) (.tmp 50) 46 46 rfl 5 Tryz.underlying46 HS8.out (some ⟨wr.heap.size, 0, none⟩) A2 nL nL x.length c2 rfl rfl wr.heap.size 0 z8 5 HGG.out cs8 HLEN.out.1 HPOS.out HLEN.out.2 HONE.out wr.heap.size wr ((Below.refl _ wr).alloc (Nat.le_refl _) _) (Nat.le_refl _) ?_; intro w4 hg4 hb4; have HG4 : Hid (Blk w4 wr.heap.size 5 (ys.map B8).toArray) := Lib.hid (by rw [← HYS.out.2]; exact hg4.out); have HB4 := Lib.hid hb4; have yR4 : w4.cell? ⟨w2.heap.size, 16, none⟩ = some (.slice sa j sc) := (hb4.cell (p := ⟨w2.heap.size, 16, none⟩) hq2').trans yR; have hq4 : w2.heap.size < w4.heap.size := Nat.lt_of_lt_of_le hq2' hb4.size; clear hg4 hb4)
          | (at_builtin; refine wpList_append_any _ rfl _ _ 29 rfl W3.heap.size 46 i7 _ 1 24 Tryz.underlying29 hi7 hv0 hv1 hv2 rfl (by decide) _ j _ rfl ((ownsRow_below HVS.out HB4.out).alloc _) (w4.heap.size + 1) (some ⟨w4.heap.size, 0, none⟩) 1 1 [.slice (some ⟨wr.heap.size, 0, none⟩) nL nL] rfl (reads_blk (t := 46) (blk_last _ _ _ _ rfl) (by omega) rfl) (by intro u hu; simp at hu; subst hu; rfl) (by have := HNJ.out; unfold maxLen; omega) (by have := HNJ.out; omega) (by have := HB4.out.size; have := HW3.out; simp only [alloc_size] at *; omega) ?_; intro v3 w5 hown3 hg3 _; obtain ⟨sa3, sc3, rfl, _⟩ := own_shape hown3; have HO3 := Lib.hid hown3; have HG3 := Lib.hid hg3; have hR5 := HC5.out _ _ HB4.out HG3.out; clear hown3 hg3))
        obtain ⟨l', e1, e2, e3, e4⟩ := HEND.out w4 w5 (.slice sa3 (j + 1) sc3) ys HYS.out.1 HG4.out HB4.out HO3.out HG3.out
        refine ⟨⟨j + 1, _, l', HLT.out, by rw [HW.out]; rfl, e1, e2, e3, e4⟩, ?_⟩
        rw [HW.out]
        have := HLT.out
        simp only [intOf]; omega
      · have hn' : ¬ (j : Int) < (n : Int) := by omega
        have HLT := Lib.hid hlt
        have HB4 : Hid (Below wr.heap.size wr (wr.alloc (.cells (madeCells #[.int .u8 0] nL) 5))) := Lib.hid ((Below.refl _ wr).alloc (Nat.le_refl _) _)
        have HG4 : Hid (Blk (wr.alloc (.cells (madeCells #[.int .u8 0] nL) 5)) wr.heap.size 5 ((List.replicate nL (0 : UInt8)).map B8).toArray) := Lib.hid (by
          have h8 := Blk.new wr 5 (madeCells (Value.int .u8 0).cells nL)
          rw [HMC.out] at h8
          rw [show madeCells #[Value.int .u8 0] nL = madeCells (Value.int .u8 0).cells nL from rfl, HMC.out, List.map_replicate]
          exact h8)
        clear hnL hu hadB hj hlt hnb hn
        go_wp2_with (first
          | (at_builtin; refine wpList_append_any _ rfl _ _ 29 rfl W3.heap.size 46 i7 _ 1 24 Tryz.underlying29 hi7 hv0 hv1 hv2 rfl (by decide) _ j _ rfl ((ownsRow_below HVS.out HB4.out).alloc _) (wr.heap.size + 1 + 1) (some ⟨wr.heap.size + 1, 0, none⟩) 1 1 [.slice (some ⟨wr.heap.size, 0, none⟩) nL nL] rfl (reads_blk (t := 46) (blk_last _ _ _ _ (by rw [alloc_size])) (by omega) rfl) (by intro u hu; simp at hu; subst hu; rfl) (by have := HNJ.out; unfold maxLen; omega) (by have := HNJ.out; omega) (by have := HW3.out; rw [alloc_size, alloc_size]; omega) ?_; intro v3 w5 hown3 hg3 _; obtain ⟨sa3, sc3, rfl, _⟩ := own_shape hown3; have HO3 := Lib.hid hown3; have HG3 := Lib.hid hg3; have hR5 := HC5.out _ _ HB4.out HG3.out; clear hown3 hg3)
          | fail)
        obtain ⟨l', e1, e2, e3, e4⟩ := HEND.out _ w5 (.slice sa3 (j + 1) sc3) (List.replicate nL (0 : UInt8)) (List.length_replicate) HG4.out HB4.out HO3.out HG3.out
        refine ⟨⟨j + 1, _, l', HLT.out, by rw [HW.out]; rfl, e1, e2, e3, e4⟩, ?_⟩
        rw [HW.out]
        have := HLT.out
        simp only [intOf]; omega
    · obtain rfl : j = L.length := by omega
      have hZ : Blk wr (w.heap.size + 1) 31 zeroSh := HZ2.out.below HB2w.out HZ2.out.lt
      have hps : (HC.push (.slice sa L.length sc)).size = 17 := by rw [Array.size_push, HCS.out]
      obtain ⟨W6, hr6, hk6, ht6, _⟩ := store_sh hZ rfl hps (push_one HON.out)
      have hL6 := load_sh HBK.out hps
      have HL7 := Lib.hid (load_sh hk6 hps)
      have HBO6 : Hid (BlkOwn W6 w.heap.size (.slice sa L.length sc) l) := Lib.hid ((HBO.out.keep fun k t cs hb ht => ht6.block k hb.lt (fun e => by
        subst e
        exact Blk.ne_ hb hZ (by rcases ht with rfl | rfl <;> decide) rfl)).base (by have := HB2.out.size; omega))
      have HB6 : Hid (Below w.heap.size w W6) := Lib.hid (HBW.out.trans (ht6.below (by omega) (fun k hk => by rw [hk]; omega)))
      have HM6 : Hid (l.map List.length = L) := Lib.hid (by have h9 := HML.out; rwa [List.take_length] at h9)
      clear hZ hk6 ht6 hps hj y16 yR
      go_wp2_with (first
        | (refine wpList_load_at rfl 31 _ rfl ⟨w2.heap.size, 0, none⟩ rfl (.agg (HC.push (.slice sa L.length sc))) hL6 ?_)
        | (refine wpList_store_at rfl 31 _ _ rfl ⟨w.heap.size + 1, 0, none⟩ rfl (.agg (HC.push (.slice sa L.length sc))) rfl W6 hr6 ?_)
        | fail)
      exact bodyPost_ret (results_cell2 Tryz.results10 _ ⟨w.heap.size + 1, 0, none⟩ rfl (.agg (HC.push (.slice sa L.length sc))) _ _ HL7.out) rfl ⟨_, l, rfl, HM6.out, HBO6.out, HB6.out⟩
end Go.Proofs.YtcbebefdbdppdaaGreat
namespace Go.Proofs.YtcbebefdbdppdaaGreat
open Go.RowKit Go.Maps

set_option maxRecDepth 100000 in
theorem remove_any (p : Nat) (S : Drv) (F : Nat → Prop) (s : ByteArray) (w : World) (hs : s.size ≤ maxLen) (hd : Dr w p S F) (hS : S.Small) :
    Calls Tryz.prog 266 #[.pointer (some ⟨p, 0, none⟩), .string s] w fun e w' =>
      e = .returned (.int .i64 (S.remove s.data.toList).2) ∧ Dr w' p (S.remove s.data.toList).1 (grow F w w') ∧ Touch F w w' := by
  obtain ⟨addr, hd⟩ := hd
  have HF := Lib.hid (find_any p S addr F s w hs hd)
  have HD := Lib.hid hd
  rcases find_cases S s.data.toList with ⟨hf, he⟩ | ⟨i, hf, hg⟩
  · obtain ⟨x, hx⟩ : ∃ x, x = (S.find s.data.toList).2 := ⟨_, rfl⟩
    rw [← hx] at hf he
    have HR : Hid (S.remove s.data.toList = (S, x)) := by unfold Drv.remove; rw [hf]; exact rfl
    rw [hf] at HF
    simp only [ptrO] at HF
    have hne : (x == 0) = false := by rcases he with rfl | rfl <;> rfl
    clear hd hx hf he hS
    rw [HR.out]
    go_enter Tryz.func266, Tryz.ntmps266
    go_wp2_with (go_at_call 67; refine HF.out.mono ?_; rintro e w' ⟨rfl, rfl⟩)
    go_ret
    exact ⟨rfl, ⟨_, HD.out.mono fun k h => .inl h⟩, Touch.refl _ _⟩
  · have HR : Hid (S.remove s.data.toList = (S.change [(s.data.toList, none)], 0)) := by unfold Drv.remove; rw [hf]; exact rfl
    rw [hf] at HF
    simp only [ptrO] at HF
    have HC := Lib.hid (change_new p S addr F [(s.data.toList, none)] w #[.string s, .pointer none] rfl hd hS (by intro x hx; simp at hx; subst hx; exact ⟨by rw [len_size]; exact hs, fun i hi => by cases hi⟩) (by simp))
    clear hd hf hg hS
    rw [HR.out]
    go_enter Tryz.func266, Tryz.ntmps266
    go_wp2_with (first
      | (go_at_call 67; refine HF.out.mono ?_; rintro e w' ⟨rfl, rfl⟩)
      | (go_at_call 270; refine HC.out.mono ?_; rintro e w3 ⟨rfl, hd3, ht3⟩; have HD3 := Lib.hid hd3; have HT3 := Lib.hid ht3; clear hd3 ht3))
    go_ret
    exact ⟨rfl, HD3.out, HT3.out⟩


theorem wremove_any (q p : Nat) (X : Wnd) (S : Drv) (F : Nat → Prop) (s : ByteArray) (w : World) (hs : s.size ≤ maxLen) (h : WD w q p X S F) (hX : X.Ok) (hS : S.Small) :
    Calls Tryz.prog 259 #[.pointer (some ⟨q, 0, none⟩), .string s] w fun e w' =>
      e = .returned (.int .i64 (wcall X S false (S.remove s.data.toList)).2.2) ∧ WD w' q p (wcall X S false (S.remove s.data.toList)).1 (wcall X S false (S.remove s.data.toList)).2.1 (grow F w w') ∧ Touch F w w' := by
  obtain ⟨FW, FD, hA, hF⟩ := h
  have HA := Lib.hid hA
  have HFF := Lib.hid hF
  have HK := Lib.hid (struck_any q _ X FW false w hA.wn hX)
  have HSM := Lib.hid hS
  clear hA hX hS
  by_cases he : (X.struck false).2.1 = 0
  · have hr : wcall X S false (S.remove s.data.toList) = ((X.struck false).1, (S.remove s.data.toList).1, (S.remove s.data.toList).2) := by unfold wcall; rw [if_pos he]
    have HR := Lib.hid hr; clear hr
    rw [HR.out]
    have HE := Lib.hid he; clear he
    go_enter Tryz.func259, Tryz.ntmps259
    go_wp2_with (first
      | (go_at_call 64; refine HK.out.mono ?_; rintro e w1 ⟨rfl, hw1, ht1⟩; rw [HE.out]; have q0 : w1.cell? ⟨q, 0, none⟩ = some (.pointer (some ⟨p, 0, none⟩)) := head_cell hw1; have HW1 := Lib.hid hw1; have HT1 := Lib.hid ht1; have HA1 : Hid (Apart w1 q p _ S FW FD) := Lib.hid (HA.out.wound hw1 ht1); clear hw1 ht1)
      | (go_at_call 266; refine (remove_any p S FD s w1 hs HA1.out.dr HSM.out).mono ?_; rintro e w2 ⟨rfl, hd2, ht2⟩; have HD2 := Lib.hid hd2; have HT2 := Lib.hid ht2; clear hd2 ht2))
    go_ret
    exact ⟨rfl, both_steps HA.out HFF.out HW1.out HT1.out HD2.out HT2.out⟩
  · obtain ⟨z, hz⟩ : ∃ z, z = (X.struck false).2.1 := ⟨_, rfl⟩
    have hr : wcall X S false (S.remove s.data.toList) = ((X.struck false).1, S, z) := by unfold wcall; rw [if_neg he, hz]
    have HR := Lib.hid hr; clear hr
    rw [HR.out]
    have HZ := Lib.hid hz
    have hne : (z != 0) = true := by rw [hz]; simpa using he
    clear he hz
    go_enter Tryz.func259, Tryz.ntmps259
    go_wp2_with (go_at_call 64; refine HK.out.mono ?_; rintro e w1 ⟨rfl, hw1, ht1⟩; rw [← HZ.out]; have HW1 := Lib.hid hw1; have HT1 := Lib.hid ht1; clear hw1 ht1)
    go_ret
    exact ⟨rfl, wound_step HA.out HFF.out HW1.out HT1.out⟩

end Go.Proofs.YtcbebefdbdppdaaGreat
namespace Go.Proofs.YtcbebefdbdppdaaGreat
open Go.RowKit Go.Maps

/-- What is told ahead of any call. -/
def lookE (s : List UInt8) : Int := if named s = true ∧ s ≠ [116] then 0 else 91
theorem named_iff (s : List UInt8) : named s = true ↔ 1 ≤ s.length ∧ s.length ≤ 1024 := by unfold named; rw [decide_eq_true_eq]
theorem look_any (q : Addr) (s : List UInt8) (w : World) (hs : s.length ≤ maxLen) : Calls Tryz.prog 124 #[.iface 36 (.pointer (some q)), .string ⟨s.toArray⟩] w fun e w' => e = .returned (.int .i64 (lookE s)) ∧ w = w' := by
  unfold maxLen at hs
  by_cases h0 : s = []
  · subst h0
    have h : lookE [] = 91 := by decide
    rw [h]
    go_enter Tryz.func124, Tryz.ntmps124
    go_wp2
    go_ret
    exact ⟨rfl, rfl⟩
  have hpos : 1 ≤ s.length := by cases s with
    | nil => exact absurd rfl h0
    | cons a l => simp only [List.length_cons]; omega
  have hz : s.isEmpty = false := by cases s with
    | nil => exact absurd rfl h0
    | cons a l => rfl
  by_cases h1 : s.length ≤ 1024
  · by_cases ht : s = [116]
    · subst ht
      have h : lookE [116] = 91 := by decide
      rw [h]
      go_enter Tryz.func124, Tryz.ntmps124
      go_wp2
      go_ret
      exact ⟨rfl, rfl⟩
    · have h : lookE s = 0 := if_pos ⟨(named_iff s).2 ⟨hpos, h1⟩, ht⟩
      rw [h]
      have ht' : (s == [116]) = false := by rw [beq_eq_false_iff_ne]; exact ht
      have hl : decide ((1024 : Int) < (s.length : Int)) = false := by rw [decide_eq_false_iff_not]; omega
      clear h ht h1 hpos h0
      go_enter Tryz.func124, Tryz.ntmps124
      go_wp2
      go_ret
      exact ⟨rfl, rfl⟩
  · have h : lookE s = 91 := if_neg fun hh => h1 ((named_iff s).1 hh.1).2
    rw [h]
    have hl : decide ((1024 : Int) < (s.length : Int)) = true := by rw [decide_eq_true_eq]; omega
    clear h h1 hpos h0
    go_enter Tryz.func124, Tryz.ntmps124
    go_wp2
    go_ret
    exact ⟨rfl, rfl⟩
end Go.Proofs.YtcbebefdbdppdaaGreat

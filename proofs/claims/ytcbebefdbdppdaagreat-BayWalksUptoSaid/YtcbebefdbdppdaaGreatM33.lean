/- cairnlaw14.showing, where the drive shows the shard.; Pairs of a walk: what each tells; the steps of a round that carry structs of many cells.; cairnlaw14.walked: a walk of the program's. -/
import Derived.Test.YtcbebefdbdppdaaGreatM28
import Derived.Test.YtcbebefdbdppdaaGreatM32
namespace Go.Proofs.YtcbebefdbdppdaaGreat
open Go.RowKit Go.Maps
theorem wantB_self (h : Hd) : wantB h h = true := by
  unfold wantB
  exact hdEq_self h
theorem look_yes {h : Hd} (hs : h.st.length = 8) (hm : h.may = 0) {l : List (List UInt8)} (hl : l.map List.length = h.lens) {w : World} {b : Nat} {v : Value} (hv : LookAt w b (shardBytes h l) 0 h v) : ∃ sv, v = .agg (seenS ((hdCells h).push sv)) ∧ BlkOwn w b sv l := by
  obtain ⟨h1, h2, h3⟩ := shard_parse h hs hm l hl
  unfold LookAt at hv
  rw [if_pos ⟨rfl, h1, by rw [h3]; exact wantB_self h⟩, h3, shard_cut h hs hm l hl, List.map_map] at hv
  obtain ⟨sv, h4, h5⟩ := hv
  exact ⟨sv, h4, by rwa [show (l.map ((fun x => x.1) ∘ fun x => (x, true))) = l from List.map_id' l] at h5⟩
theorem glance_yes {h : Hd} (hs : h.st.length = 8) (hm : h.may = 0) {l : List (List UInt8)} (hl : l.map List.length = h.lens) {v : Value} (hv : GlanceAt (shardBytes h l) 0 h v) : v = .agg (seenS ((hdCells h).push (.slice none 0 0))) := by
  obtain ⟨h1, h2, h3⟩ := shard_parse h hs hm l hl
  have hlen := shard_length h hs l hl
  generalize shardBytes h l = ds at *
  unfold GlanceAt at hv
  rw [h3] at hv
  rw [if_pos ⟨rfl, h2, wantB_self h, hlen.symm⟩] at hv
  exact hv
theorem seenS_at {CS : Array Value} (h : CS.size = 17) {j : Nat} (hj : j < 17) : (seenS CS)[j + 1]? = CS[j]? := by
  unfold seenS
  rw [List.getElem?_toArray, List.getElem?_cons_succ, List.getElem?_append_left (by simpa [h] using hj), Array.getElem?_toList]
theorem seenS_last {CS : Array Value} (h : CS.size = 17) : (seenS CS)[18]? = some (.int .i64 0) := by
  unfold seenS
  rw [List.getElem?_toArray, List.getElem?_cons_succ, List.getElem?_append_right (by simp [h])]
  simp [h]
theorem seenS_list (CS : Array Value) : seenS CS = ([Value.int .i64 2] ++ CS.toList ++ [Value.int .i64 0]).toArray := rfl
theorem load_sh_in {w : World} {g : Nat} {t : TypeId} {CS : Array Value} (hg : Blk w g t (seenS CS)) (hl : CS.size = 17) : (loadVar 31 ⟨g, 1, none⟩).run Tryz.prog w = .ok (.agg CS) w := by
  rw [seenS_list] at hg
  have h := run_loadVar_mid (P := Tryz.prog) 31 hg Tryz.underlying31 shardInfo rfl (by rw [Array.length_toList, hl])
  rw [Array.toArray_toList] at h
  exact h
theorem load_hd_in {w : World} {g : Nat} {t : TypeId} {HC : Array Value} {sv : Value} (hg : Blk w g t (seenS (HC.push sv))) (hl : HC.size = 16) : (loadVar 28 ⟨g, 1, none⟩).run Tryz.prog w = .ok (.agg HC) w := by
  have e : seenS (HC.push sv) = ([Value.int .i64 2] ++ HC.toList ++ [sv, Value.int .i64 0]).toArray := by
    rw [seenS_list, Array.toList_push]; simp
  rw [e] at hg
  have h := run_loadVar_mid (P := Tryz.prog) 28 hg Tryz.underlying28 headInfo rfl (by rw [Array.length_toList, hl])
  rw [Array.toArray_toList] at h
  exact h
set_option maxRecDepth 100000 in
set_option maxHeartbeats 8000000 in
theorem showing_yes (q p : Nat) (X : Wnd) (S : Drv) (F : Nat → Prop) (h : Hd) (hs : h.st.length = 8) (hm : h.may = 0) (l : List (List UInt8)) (hl : l.map List.length = h.lens) (A : Option Addr) (n c : Nat) (w : World) (hb : BlksOff w w.heap.size F A n l) (hn : n ≤ 4096)
    (hd : WD w q p X S F) (hF : ∀ k, F k → k < w.heap.size) (ct : Nat) (hX : X.Okn ct) (hct : ct + 2 ≤ 1152921504606846976) (hS : S.Small) (hC : Calm X) (hr : S.read (objN h.key) = (shardBytes h l, 0)) :
    Calls Tryz.prog 15 #[.iface 36 (.pointer (some ⟨q, 0, none⟩)), shV h (.slice A n c)] w fun e w' => e = .returned (.bool true) ∧ WD w' q p X.count.count S F ∧ Touch F w w' := by
  have f := Hd.fit_of hm
  have hds : (shardBytes h l).length ≤ 1099511627776 := by rw [shard_length h hs l hl]; have := hd_len_le f; omega
  have HLK := Lib.hid fun (W : World) (hW : WD W q p X S F) (hF : ∀ k, F k → k < W.heap.size) => blook_any q p X S F h hs f.key.1 f.key.2 W hW hF (hX.ok (by omega)) hS X.count (shardBytes h l) 0 (by rw [hC.read, hr]) hds
  have HGL := Lib.hid fun (W : World) (hW : WD W q p X.count S F) (hF : ∀ k, F k → k < W.heap.size) => bglance_any q p X.count S F h hs f.key.1 f.key.2 W hW hF ((show X.count.Okn (ct + 1) from by have h9 := struck_okn hX false; rw [hC.struck] at h9; exact h9).ok (by omega)) hS X.count.count (shardBytes h l) 0 (by rw [hC.count.read, hr]) hds
  have HLY := Lib.hid fun (w : World) (b : Nat) (v : Value) => look_yes (v := v) (w := w) (b := b) hs hm hl
  have HGY := Lib.hid fun (v : Value) => glance_yes (v := v) hs hm hl
  have HSM := Lib.hid fun (A1 A2 : Option Addr) (c1 c2 : Nat) (w : World) => rsame_yes h hs l A1 A2 n c1 c2 w hn
  have HEQ := Lib.hid fun (W : World) => hd_eql h h hs hs W
  rw [hdEq_self] at HEQ
  have HB := Lib.hid hb
  have HF := Lib.hid hF
  have HD := Lib.hid hd
  have hcs := hdCells_size hs
  have hone := hd_one h
  clear hds hr hC hX hct hS f hb hF hd hn
  unfold shV hdV at *
  generalize hdCells h = HC at *
  have HCS := Lib.hid hcs
  have HON := Lib.hid hone
  clear hcs hone
  have HNB : Hid (∀ k, w.heap.size ≤ k → ¬F k) := Lib.hid fun k h hk => by have := HF.out _ hk; omega
  have hL1 : (loadVar 28 ⟨w.heap.size, 0, none⟩).run Tryz.prog (w.alloc (.cells (HC.push (.slice A n c)) 31)) = .ok (.agg HC) (w.alloc (.cells (HC.push (.slice A n c)) 31)) := load_head_in (Blk.new _ _ _) HCS.out
  have HB0 : Hid (Below w.heap.size w (w.alloc (.cells (HC.push (.slice A n c)) 31))) := Lib.hid ((Below.refl _ w).alloc (Nat.le_refl _) _)
  go_enter Tryz.func15, Tryz.ntmps15
  go_wp2_with (first
    | (refine wpList_load_at rfl 28 _ rfl ⟨w.heap.size, 0, none⟩ rfl (.agg HC) hL1 ?_)
    | fail)
  refine (HLK.out _ (HD.out.below HB0.out) (fun k hk => Nat.lt_of_lt_of_le (HF.out k hk) HB0.out.size)).mono ?_
  rintro e w1 ⟨v, rfl, hla, hd1, ht1⟩
  obtain ⟨sv, rfl, hbo⟩ := HLY.out _ _ _ hla
  have HK1 : Hid (Blk w1 w.heap.size 31 (HC.push (.slice A n c))) := Lib.hid ((Blk.new w _ _).touch ht1 (HNB.out _ (Nat.le_refl _)))
  have hln : l.length = n := HB.out.len
  obtain ⟨sa, sc, hsv⟩ : ∃ sa sc, sv = .slice sa n sc := by
    obtain ⟨vs, hvs, _⟩ := hbo.row
    rw [hln] at hvs
    obtain ⟨sa, sc, hsv, _⟩ := own_shape hvs
    exact ⟨sa, sc, hsv⟩
  subst hsv
  have HT1 : Hid (Touch F w w1) := Lib.hid ((Touch.of_below HB0.out).trans (ht1.mono fun k _ hk => .inl hk))
  have HB1 : Hid (BlksOff w1 w.heap.size F A n l) := Lib.hid (HB.out.touch HT1.out (Nat.le_refl _) (fun _ _ hk => hk))
  have HO1 : Hid (BlksOff w1 w1.heap.size F sa n l) := Lib.hid (hbo.off hln (fun k hk => by rw [alloc_size]; have := HF.out k hk; omega))
  have HD1 := Lib.hid hd1
  have hz1 : w.heap.size + 1 ≤ w1.heap.size := by have := ht1.size; rwa [alloc_size] at this
  clear hd1 hbo hla ht1
  have HC1 : Hid ((HC.push (.slice sa n sc)).size = 17) := Lib.hid (by rw [Array.size_push, HCS.out])
  have HP1 : Hid (∀ v ∈ (HC.push (.slice sa n sc)).toList, v.oneCell' = true) := Lib.hid (push_one HON.out)
  obtain ⟨CS, hCS⟩ : ∃ CS, CS = HC.push (.slice sa n sc) := ⟨_, rfl⟩
  rw [← hCS] at HC1 HP1
  have HCE := Lib.hid hCS
  obtain ⟨W2, hr2, hk2, ht2, _⟩ := store_seen (w := w1.alloc (.cells (seen0 0 0) 57)) (R := w1.heap.size) (CK := seenS CS) (Blk.new _ _ _) rfl (seenS_size HC1.out) (seenS_one HP1.out)
  have HB2 : Hid (Below w1.heap.size w1 W2) := Lib.hid (((Below.refl _ w1).alloc (Nat.le_refl _) _).trans (ht2.below (by rw [alloc_size]; exact Nat.le_succ _) (fun k hk => Nat.le_of_eq hk.symm)))
  have HS2 := Lib.hid hk2
  have HK2 := Lib.hid (HK1.out.below HB2.out hz1)
  have hz2 : w1.heap.size + 1 ≤ W2.heap.size := hk2.lt
  clear hk2 ht2
  rw [← hCS]
  clear hCS
  have hL2 := load_head_in HK2.out HCS.out
  clear hL1
  go_wp2_with (first
    | (refine wpList_store_at rfl 57 _ _ rfl ⟨w1.heap.size, 0, none⟩ rfl (.agg (seenS CS)) rfl W2 hr2 ?_)
    | (refine wpList_load_at rfl 28 _ rfl ⟨w.heap.size, 0, none⟩ rfl (.agg HC) hL2 ?_)
    | fail)
  clear hr2 hL2
  refine (HGL.out _ (HD1.out.below HB2.out) (fun k hk => Nat.lt_of_lt_of_le (HF.out k hk) (Nat.le_trans (Nat.le_of_lt hz1) HB2.out.size))).mono ?_
  rintro e w3 ⟨v, rfl, hga, hd3, ht3⟩
  obtain rfl := HGY.out _ hga
  have HT3 := Lib.hid ht3
  have HO3 : Hid (BlksOff w3 w1.heap.size F sa n l) := Lib.hid ((HO1.out.below HB2.out).touch ht3 (Nat.le_of_lt hz2) (fun _ _ hk => hk))
  have HB3 : Hid (BlksOff w3 w.heap.size F A n l) := Lib.hid ((HB1.out.below (HB2.out.mono (Nat.le_of_lt hz1))).touch ht3 (Nat.le_trans (Nat.le_of_lt hz1) HB2.out.size) (fun _ _ hk => hk))
  have HD3 := Lib.hid hd3
  have HK3 := Lib.hid (HK2.out.touch ht3 (HNB.out _ (Nat.le_refl _)))
  have HS3 := Lib.hid (HS2.out.touch ht3 (HNB.out _ (Nat.le_of_lt hz1)))
  have hz3 : w1.heap.size + 1 ≤ w3.heap.size := Nat.le_trans hz2 ht3.size
  have HCG : Hid ((HC.push (.slice none 0 0)).size = 17) := Lib.hid (by rw [Array.size_push, HCS.out])
  have HPG : Hid (∀ v ∈ (HC.push (.slice none 0 0)).toList, v.oneCell' = true) := Lib.hid (push_one HON.out)
  have HG16 : Hid ((HC.push (.slice none 0 0))[16]? = some (.slice none 0 0)) := Lib.hid (by have h9 := HCS.out; rw [← h9]; exact Array.getElem?_push_size)
  clear hga hd3 ht3
  obtain ⟨CG, hCG⟩ : ∃ CG, CG = HC.push (.slice none 0 0) := ⟨_, rfl⟩
  rw [← hCG] at HCG HPG HG16 ⊢
  have HGE := Lib.hid hCG
  clear hCG
  obtain ⟨W4, hr4, hk4, ht4, _⟩ := store_seen (w := w3.alloc (.cells (seen0 0 0) 57)) (R := w3.heap.size) (CK := seenS CG) (Blk.new _ _ _) rfl (seenS_size HCG.out) (seenS_one HPG.out)
  have HB4 : Hid (Below w3.heap.size w3 W4) := Lib.hid (((Below.refl _ w3).alloc (Nat.le_refl _) _).trans (ht4.below (by rw [alloc_size]; exact Nat.le_succ _) (fun k hk => Nat.le_of_eq hk.symm)))
  have HG4 := Lib.hid hk4
  have HS4 := Lib.hid (HS3.out.below HB4.out hz3)
  have HK4 := Lib.hid (HK3.out.below HB4.out (Nat.lt_of_lt_of_le (Nat.lt_succ_of_lt hz1) hz3))
  clear hk4 ht4
  have y0 : W4.cell? ⟨w1.heap.size, 0, none⟩ = some (.int .i64 2) := HS4.out.cell 0
  have y18 : W4.cell? ⟨w1.heap.size, 18, none⟩ = some (.int .i64 0) := (HS4.out.cell 18).trans (seenS_last HC1.out)
  have hL5 := load_sh_in HS4.out HC1.out
  have hL6 := load_sh HK4.out (by rw [Array.size_push, HCS.out])
  go_wp2_with (first
    | (refine wpList_store_at rfl 57 _ _ rfl ⟨w3.heap.size, 0, none⟩ rfl (.agg (seenS CG)) rfl W4 hr4 ?_)
    | (refine wpList_load_if 31 _ rfl (by rfl) ⟨w1.heap.size, 1, none⟩ rfl (.agg CS) hL5 ?_)
    | (refine wpList_load_if 31 _ rfl (by rfl) ⟨w.heap.size, 0, none⟩ rfl (.agg (HC.push (.slice A n c))) hL6 ?_)
    | fail)
  have hw13 : w1.heap.size ≤ w3.heap.size := Nat.le_of_lt hz3
  have hw0 : w.heap.size ≤ w1.heap.size := Nat.le_of_lt hz1
  have HSA := Lib.hid (HSM.out sa A sc c W4 ((HO3.out.below (HB4.out.mono hw13)).more (Nat.le_trans hw13 HB4.out.size)).at_ ((HB3.out.below (HB4.out.mono (Nat.le_trans hw0 hw13))).more (Nat.le_trans (Nat.le_trans hw0 hw13) HB4.out.size)).at_)
  rw [← HCE.out] at HSA
  clear hr4 y0 y18 hL5 hL6
  refine HSA.out.mono ?_
  rintro e w5 ⟨rfl, hb5⟩
  have HG5 := Lib.hid (HG4.out.below hb5 HG4.out.lt)
  have HK5 := Lib.hid (HK4.out.below hb5 HK4.out.lt)
  have HB5 := Lib.hid hb5
  clear hb5
  have z0 : w5.cell? ⟨w3.heap.size, 0, none⟩ = some (.int .i64 2) := HG5.out.cell 0
  have z18 : w5.cell? ⟨w3.heap.size, 18, none⟩ = some (.int .i64 0) := (HG5.out.cell 18).trans (seenS_last HCG.out)
  have z17 : w5.cell? ⟨w3.heap.size, 17, none⟩ = some (.slice none 0 0) := (HG5.out.cell 17).trans ((seenS_at HCG.out (by decide)).trans HG16.out)
  have hL7 : (loadVar 28 ⟨w3.heap.size, 1, none⟩).run Tryz.prog w5 = .ok (.agg HC) w5 := by
    have h9 := HG5.out
    rw [HGE.out] at h9
    exact load_hd_in h9 HCS.out
  have hL8 := load_head_in HK5.out HCS.out
  have hEQ := HEQ.out
  go_wp2_with (first
    | (refine wpList_load_if 28 _ rfl (by rfl) ⟨w3.heap.size, 1, none⟩ rfl (.agg HC) hL7 ?_)
    | (refine wpList_load_if 28 _ rfl (by rfl) ⟨w.heap.size, 0, none⟩ rfl (.agg HC) hL8 ?_)
    | fail)
  go_ret
  refine ⟨rfl, (HD3.out.below HB4.out).below HB5.out, ?_⟩
  exact (((HT1.out.trans (Touch.of_below HB2.out)).trans (HT3.out.mono fun k _ hk => .inl hk)).trans (Touch.of_below HB4.out)).trans (Touch.of_below HB5.out)
end Go.Proofs.YtcbebefdbdppdaaGreat
namespace Go.Proofs.YtcbebefdbdppdaaGreat
open Go.RowKit Go.Maps
section
variable {F : Fence} {n : Nat} {P : Program} {w : World} {ops : Array Oper} {rest : List Oper} {o : Oper} {a : Act} {Q : Exit → Act → World → Prop}
theorem wpListIn_load_at (hgd : o.guard = none) (ty : TypeId) (x : Operand) (ho : o.op = .load ty x)
    (ad : Addr) (hx : a.eval x = .pointer (some ad)) (v : Value) (hrun : (loadVar ty ad).run P w = .ok v w) (h : wpListIn F n P ops Q rest (a.put o.dst v) w) : wpListIn F n P ops Q (o :: rest) a w :=
  wpListIn_plain hgd fun _ hK => by
    unfold Oper.wpIn
    refine ⟨by simp [Oper.about, ho], ?_⟩
    rw [Oper.semAt_plain F _ _ (by rw [ho]; intro c hc; cases hc)]
    unfold execOp
    simp only [ho, hx, Instr.loadAt, Instr.sureAddr, Sem.run_bind, Sem.run_pure, Result.andThen_ok, hrun, Oper.uponIn]
    exact hK _ _ h
theorem wpListIn_store_at (hgd : o.guard = none) (ty : TypeId) (x y : Operand) (ho : o.op = .store ty x y)
    (ad : Addr) (hx : a.eval x = .pointer (some ad)) (v : Value) (hy : a.eval y = v) (w' : World) (hrun : (storeVar ty ad v).run P w = .ok () w') (h : wpListIn F n P ops Q rest (a.put o.dst undef) w') : wpListIn F n P ops Q (o :: rest) a w :=
  wpListIn_plain hgd fun _ hK => by
    unfold Oper.wpIn
    refine ⟨by simp [Oper.about, ho], ?_⟩
    rw [Oper.semAt_plain F _ _ (by rw [ho]; intro c hc; cases hc)]
    unfold execOp
    simp only [ho, hx, hy, Instr.storeAt, Instr.sureAddr, Sem.run_bind, Sem.run_pure, Result.andThen_ok, hrun, Oper.uponIn]
    exact hK _ _ h
theorem wpListIn_build_at (hgd : o.guard = none) (t : TypeId) (parts : Array (Nat × Operand)) (ho : o.op = .build t parts)
    (vs : Array (Nat × Value)) (hx : parts.map (fun (i, x) => (i, a.eval x)) = vs) (v : Value) (hrun : (Instr.build t vs).run P w = .ok v w) (h : wpListIn F n P ops Q rest (a.put o.dst v) w) : wpListIn F n P ops Q (o :: rest) a w :=
  wpListIn_plain hgd fun _ hK => by
    unfold Oper.wpIn
    refine ⟨by simp [Oper.about, ho], ?_⟩
    rw [Oper.semAt_plain F _ _ (by rw [ho]; intro c hc; cases hc)]
    unfold execOp
    simp only [ho, hx, Sem.run_bind, Sem.run_pure, Result.andThen_ok, hrun, Oper.uponIn]
    exact hK _ _ h
theorem wpListIn_slice_at (hgd : o.guard = none) (t : TypeId) (len : Nat) (parts : Array (Nat × Operand)) (ho : o.op = .buildSlice t len parts)
    (vs : Array (Nat × Value)) (hx : parts.map (fun (i, x) => (i, a.eval x)) = vs) (v : Value) (w' : World) (hrun : (Instr.buildSlice t len vs).run P w = .ok v w') (h : wpListIn F n P ops Q rest (a.put o.dst v) w') : wpListIn F n P ops Q (o :: rest) a w :=
  wpListIn_plain hgd fun _ hK => by
    unfold Oper.wpIn
    refine ⟨by simp [Oper.about, ho], ?_⟩
    rw [Oper.semAt_plain F _ _ (by rw [ho]; intro c hc; cases hc)]
    unfold execOp
    simp only [ho, hx, Sem.run_bind, Sem.run_pure, Result.andThen_ok, hrun, Oper.uponIn]
    exact hK _ _ h
end
def pairC (k : Value) (CS : Array Value) : Array Value := (k :: CS.toList).toArray
theorem arr19 {CK : Array Value} (h : CK.size = 19) : ∃ v0 v1 v2 v3 v4 v5 v6 v7 v8 v9 v10 v11 v12 v13 v14 v15 v16 v17 v18, CK = #[v0, v1, v2, v3, v4, v5, v6, v7, v8, v9, v10, v11, v12, v13, v14, v15, v16, v17, v18] := by
  obtain ⟨l⟩ := CK
  rw [List.size_toArray] at h
  match l, h with
  | [v0, v1, v2, v3, v4, v5, v6, v7, v8, v9, v10, v11, v12, v13, v14, v15, v16, v17, v18], _ => exact ⟨v0, v1, v2, v3, v4, v5, v6, v7, v8, v9, v10, v11, v12, v13, v14, v15, v16, v17, v18, rfl⟩
theorem build_pair0 (s : ByteArray) (v0 v1 v2 v3 v4 v5 v6 v7 v8 v9 v10 v11 v12 v13 v14 v15 v16 v17 v18 : Value) (W : World) : (Instr.build 82 #[(0, .string s), (1, .agg #[v0, v1, v2, v3, v4, v5, v6, v7, v8, v9, v10, v11, v12, v13, v14, v15, v16, v17, v18])]).run Tryz.prog W = .ok (.agg #[.string s, v0, v1, v2, v3, v4, v5, v6, v7, v8, v9, v10, v11, v12, v13, v14, v15, v16, v17, v18]) W := by kernel_rfl
theorem build_pair (s : ByteArray) {CS : Array Value} (h : CS.size = 19) (W : World) : (Instr.build 82 #[(0, .string s), (1, .agg CS)]).run Tryz.prog W = .ok (.agg (pairC (.string s) CS)) W := by
  obtain ⟨v0, v1, v2, v3, v4, v5, v6, v7, v8, v9, v10, v11, v12, v13, v14, v15, v16, v17, v18, rfl⟩ := arr19 h
  exact build_pair0 s _ _ _ _ _ _ _ _ _ _ _ _ _ _ _ _ _ _ _ W
theorem slice_pair0 (k v0 v1 v2 v3 v4 v5 v6 v7 v8 v9 v10 v11 v12 v13 v14 v15 v16 v17 v18 : Value) (W : World) : (Instr.buildSlice 76 1 #[(0, .agg #[k, v0, v1, v2, v3, v4, v5, v6, v7, v8, v9, v10, v11, v12, v13, v14, v15, v16, v17, v18])]).run Tryz.prog W = .ok (.slice (some ⟨W.heap.size, 0, none⟩) 1 1) (W.alloc (.cells #[k, v0, v1, v2, v3, v4, v5, v6, v7, v8, v9, v10, v11, v12, v13, v14, v15, v16, v17, v18] 82)) := by kernel_rfl
theorem slice_pair (k : Value) {CS : Array Value} (h : CS.size = 19) (W : World) : (Instr.buildSlice 76 1 #[(0, .agg (pairC k CS))]).run Tryz.prog W = .ok (.slice (some ⟨W.heap.size, 0, none⟩) 1 1) (W.alloc (.cells (pairC k CS) 82)) := by
  obtain ⟨v0, v1, v2, v3, v4, v5, v6, v7, v8, v9, v10, v11, v12, v13, v14, v15, v16, v17, v18, rfl⟩ := arr19 h
  exact slice_pair0 k _ _ _ _ _ _ _ _ _ _ _ _ _ _ _ _ _ _ _ W
theorem pairInfo : (Tryz.prog.info? 82).map (fun i => (i.zero, i.size, i.bytes)) = some (some (.agg (pairC (.string ⟨#[]⟩) (seen0 0 0))), 20, 136) := by kernel_rfl
theorem pairC_size {k : Value} {CS : Array Value} (h : CS.size = 19) : (pairC k CS).toList.length = 20 := by simp [pairC, h]
theorem ownsRow_keepB {w w' : World} {b : Nat} {e : TypeId} {size n : Nat} {u : Value} {xs : List Value} (h : w.ownsRow b e size u n xs) (hk : ∀ k cs, b ≤ k → Blk w k e cs → w'.heap[k]? = w.heap[k]?) : w'.ownsRow b e size u n xs :=
  ownsRow_keep h fun k hk' => by
    have hlt := h.lt k hk'
    rcases h.2 with ⟨rfl, _⟩ | ⟨g, cap, cur, rfl, _, hg, _⟩
    · cases hk'
    · have : g = k := by simpa [Value.ownBlock] using hk'
      subst this
      exact hk g cur hlt.1 hg
theorem BlkOwn.keepB {w w' : World} {b : Nat} {v : Value} {l : List (List UInt8)} (h : BlkOwn w b v l) (hk : ∀ k t cs, b ≤ k → Blk w k t cs → (t = 46 ∨ t = 5) → w'.heap[k]? = w.heap[k]?) : BlkOwn w' b v l := by
  obtain ⟨vs, h1, h2⟩ := h.row
  exact ⟨vs, ownsRow_keepB h1 fun k cs hb hg => hk k _ cs hb hg (.inl rfl), fun j x hx => by
    obtain ⟨A', c', e, ho⟩ := h2 j x hx
    exact ⟨A', c', e, ownsRow_keepB ho fun k cs hb hg => hk k _ cs hb hg (.inr rfl)⟩⟩
theorem LookAt.keepB {w w' : World} {b : Nat} {ds : List UInt8} {x : Int} {want : Hd} {v : Value} (h : LookAt w b ds x want v) (hk : ∀ k t cs, b ≤ k → Blk w k t cs → (t = 46 ∨ t = 5) → w'.heap[k]? = w.heap[k]?) : LookAt w' b ds x want v := by
  unfold LookAt at *
  split
  · rename_i hc
    rw [if_pos hc] at h
    obtain ⟨sv, e, ho⟩ := h
    exact ⟨sv, e, ho.keepB hk⟩
  · rename_i hc
    rwa [if_neg hc] at h
theorem LookAt.base {w : World} {b b' : Nat} {ds : List UInt8} {x : Int} {want : Hd} {v : Value} (h : LookAt w b ds x want v) (hb : b' ≤ b) : LookAt w b' ds x want v := by
  unfold LookAt at *
  split
  · rename_i hc
    rw [if_pos hc] at h
    obtain ⟨sv, e, ho⟩ := h
    exact ⟨sv, e, ho.base hb⟩
  · rename_i hc
    rwa [if_neg hc] at h
theorem look_agg {w : World} {b : Nat} {ds : List UInt8} {x : Int} {want : Hd} {v : Value} (h : LookAt w b ds x want v) : ∃ cs, v = .agg cs ∧ cs.size = 19 ∧ ∀ u ∈ cs.toList, u.oneCell' = true := by
  unfold LookAt at h
  split at h
  · rename_i hc
    obtain ⟨sv, e, ho⟩ := h
    obtain ⟨vs, hv, _⟩ := ho.row
    obtain ⟨A, c, hsv, _⟩ := own_shape hv
    have hst : (Hd.ofB ds).st.length = 8 := by
      have h9 := parseH_st ds
      unfold parseH at h9
      rwa [if_pos hc.2.1] at h9
    have hs : ((hdCells (Hd.ofB ds)).push sv).size = 17 := by rw [Array.size_push, hdCells_size hst]
    exact ⟨_, e, seenS_size hs, seenS_one (by rw [hsv]; exact push_one (hd_one _))⟩
  · exact ⟨_, h, rfl, seen0_one _ _⟩
def flatP (us : List (List UInt8 × Array Value)) : List Value := us.flatMap fun p => strV p.1 :: p.2.toList
theorem flatP_snoc (us : List (List UInt8 × Array Value)) (k : List UInt8) (CS : Array Value) : flatP (us ++ [(k, CS)]) = flatP us ++ (pairC (strV k) CS).toList := by
  unfold flatP pairC
  rw [List.flatMap_append]
  simp
def Told (V : World) (m : Nat) (S : Drv) (Y : Wnd) (st : Hd) (ks : List (List UInt8)) (us : List (List UInt8 × Array Value)) : Prop :=
  ∀ (j : Nat) (p : List UInt8 × Array Value), us[j]? = some p → ks[j]? = some p.1 ∧ p.2.size = 19 ∧ ∃ Z ds e, wread (struckN j Y) (S.read (objN p.1)) = (Z, ds, e) ∧ LookAt V m ds e { st with key := p.1 } (.agg p.2)
theorem Told.keepB {V V' : World} {m : Nat} {S : Drv} {Y : Wnd} {st : Hd} {ks : List (List UInt8)} {us : List (List UInt8 × Array Value)} (h : Told V m S Y st ks us) (hk : ∀ k t cs, m ≤ k → Blk V k t cs → (t = 46 ∨ t = 5) → V'.heap[k]? = V.heap[k]?) : Told V' m S Y st ks us := fun j p hj => by
  obtain ⟨h1, h2, Z, ds, e, h3, h4⟩ := h j p hj
  exact ⟨h1, h2, Z, ds, e, h3, h4.keepB hk⟩
def stopB (most limit : Int) (c : Nat) : Prop := (0 ≤ most ∧ most < (c : Int)) ∨ limit < (c : Int)
structure WalkSt (O B1 B2 q p : Nat) (st : Hd) (F : Nat → Prop) (S : Drv) (Y : Wnd) (ks : List (List UInt8)) (most limit : Int) (m i j : Nat) (V : World) : Prop where
  wd : WD V q p (struckN j Y) S F
  row : ∃ v us, Blk V O 76 #[v] ∧ V.ownsRow m 82 20 v i (flatP us) ∧ us.length = i ∧ Told V m S Y st ks us
  mo : Blk V B1 3 #[.int .i64 most]
  li : Blk V B2 3 #[.int .i64 limit]
  le : m ≤ V.heap.size
theorem WalkSt.touch {O B1 B2 q p : Nat} {st : Hd} {F G : Nat → Prop} {S : Drv} {Y : Wnd} {ks : List (List UInt8)} {most limit : Int} {m i j : Nat} {V V' : World} (h : WalkSt O B1 B2 q p st F S Y ks most limit m i j V) (ht : Touch G V V') (jj : Nat)
    (hw : WD V' q p (struckN jj Y) S F) (hG : ∀ k, G k → k < m) (h0 : ¬G O) (h1 : ¬G B1) (h2 : ¬G B2) : WalkSt O B1 B2 q p st F S Y ks most limit m i jj V' := by
  obtain ⟨v, us, hb, hr, hl, hto⟩ := h.row
  have hk : ∀ k t cs, m ≤ k → Blk V k t cs → V'.heap[k]? = V.heap[k]? := fun k t cs hm hb => ht.block k hb.lt fun hg => by have := hG k hg; omega
  exact ⟨hw, ⟨v, us, hb.touch ht h0, ownsRow_keepB hr fun k cs hm hb => hk k _ cs hm hb, hl, hto.keepB fun k t cs hm hb _ => hk k t cs hm hb⟩, h.mo.touch ht h1, h.li.touch ht h2, Nat.le_trans h.le ht.size⟩
theorem WalkSt.put_ {O B1 B2 q p : Nat} {st : Hd} {F : Nat → Prop} {S : Drv} {Y : Wnd} {ks : List (List UInt8)} {most limit : Int} {m i j : Nat} {V : World} (h : WalkSt O B1 B2 q p st F S Y ks most limit m i j V) {r : Nat} {o o' : Obj} (ho : V.heap[r]? = some o) (hc : o.isCells = false)
    (hF : ¬F r) : WalkSt O B1 B2 q p st F S Y ks most limit m i j (V.putObj r o') := by
  obtain ⟨v, us, hb, hr, hl, hto⟩ := h.row
  have hne : ∀ {k : Nat} {t : TypeId} {cs : Array Value}, Blk V k t cs → k ≠ r := fun {k t cs} hb e => by
    subst e
    unfold Blk at hb
    rw [hb] at ho
    injection ho with ho
    subst ho
    cases hc
  have hk : ∀ k t cs, Blk V k t cs → (V.putObj r o').heap[k]? = V.heap[k]? := fun k t cs hb => World.putObj_heap_other (hne hb)
  exact ⟨h.wd.keep (Touch.one_put r V o') (fun k hk e => hF (by rw [← e]; exact hk)), ⟨v, us, hb.put_ (hne hb) o', ownsRow_keepB hr fun k cs _ hb => hk k _ cs hb, hl, hto.keepB fun k t cs _ hb _ => hk k t cs hb⟩, h.mo.put_ (hne h.mo) o', h.li.put_ (hne h.li) o', by rw [World.putObj_size]; exact h.le⟩
end Go.Proofs.YtcbebefdbdppdaaGreat
namespace Go.Proofs.YtcbebefdbdppdaaGreat
open Go.RowKit Go.Maps
attribute [local go_sem] Oper.semAt_some
structure WR where
  m : Nat
  i : Nat
  key : List UInt8
  cs : Array Value
  W1 : World
set_option maxRecDepth 100000 in
set_option maxHeartbeats 8000000 in
theorem walked_in (n : Nat) (q p : Nat) (X : Wnd) (S : Drv) (F : Nat → Prop) (w : World) (st : Hd) (hst : st.st.length = 8) (most limit : Int) (ct : Nat) (hn : size S.now ≤ 2199023255552) (hnm : ∀ nm ∈ dnames S.now, nm.length ≤ 1024) (hdl : (dnames S.now).length ≤ 549755813888) (hrd : ∀ nm, (S.read nm).1.length ≤ 1099511627776)
    (hd : WD w q p X S F) (hF : ∀ k, F k → k < w.heap.size) (hX : X.Okn ct) (hct : ct + 1 + (dnames S.now).length ≤ 1152921504606846976) (hS : S.Small) (Y : Wnd) (ls : List (List UInt8)) (x : Int) (hy : wread X (dnames S.now, (0 : Int)) = (Y, ls, x)) :
    CallsIn Fence.wide n Tryz.prog 24 #[.iface 36 (.pointer (some ⟨q, 0, none⟩)), hdV st, .int .i64 most, .int .i64 limit] w fun e w' => ∃ v us, e = .returned v ∧ w'.ownsRow w.heap.size 82 20 v us.length (flatP us) ∧ Told w' w.heap.size S Y st (keysL ls x) us ∧
      us.length ≤ (keysL ls x).length ∧ (∀ j : Nat, 0 < j → j < us.length → ¬stopB most limit j) ∧ (us.length = (keysL ls x).length ∨ (0 < us.length ∧ stopB most limit us.length)) ∧ WD w' q p (struckN us.length Y) S F ∧ Touch F w w' := by
  have HALL := Lib.hid fun (W : World) => all_any (.iface 36 (.pointer (some ⟨q, 0, none⟩))) st W ⟨_, _, rfl⟩
  obtain ⟨ks, hks⟩ : ∃ ks, ks = keysL ls x := ⟨_, rfl⟩
  rw [← hks]
  have HKS := Lib.hid hks
  have HKL : Hid (ks.length ≤ 549755813888) := Lib.hid (by
    have h8 : (wread X (dnames S.now, (0 : Int))).2.1.length ≤ (dnames S.now).length := by
      unfold wread
      split
      · exact Nat.le_refl _
      · exact Nat.zero_le _
    rw [hy] at h8
    rw [hks]
    exact Nat.le_trans (keysL_length ls x) (Nat.le_trans h8 hdl))
  clear hks
  have HD := Lib.hid hd
  have HX := Lib.hid hX
  have HF := Lib.hid hF
  have HN := Lib.hid (And.intro hn (And.intro hnm (And.intro hdl hrd)))
  have HYY := Lib.hid hy
  have HS := Lib.hid hS
  have HCT := Lib.hid hct
  have HST := Lib.hid hst
  have hdd : ∀ k : Nat, (Fence.wide.depth.isSome = true → 1 ≤ k) := fun k h => by cases h
  have hf1 : Fence.wide.fn 25 := trivial
  have HCW : Hid ((hdCells st).size = 16) := Lib.hid (hdCells_size hst)
  clear hd hF hX hct hS hy hn hnm hdl hrd hst
  unfold hdV at HALL ⊢
  obtain ⟨CW, hCW⟩ : ∃ CW, CW = hdCells st := ⟨_, rfl⟩
  rw [← hCW] at HALL HCW ⊢
  have HCE := Lib.hid hCW
  clear hCW
  have hL1 : ∀ o1 o2 o3 : Obj, (loadVar 28 ⟨w.heap.size, 0, none⟩).run Tryz.prog ((((w.alloc (.cells CW 28)).alloc o1).alloc o2).alloc o3) = .ok (.agg CW) ((((w.alloc (.cells CW 28)).alloc o1).alloc o2).alloc o3) := fun o1 o2 o3 => load_head ((((Blk.new w _ _).alloc _).alloc _).alloc _) HCW.out
  have hFN : ∀ (f : Fn) (caps : Array Value) (W : World), (binOp .eql 79 (.func f #[] caps) .nilFunc).run Tryz.prog W = .ok (.bool false) W := fun _ _ _ => by kernel_rfl
  refine callsIn_of_wp_marks Tryz.func24 rfl trivial ?_ rfl
  simp only [Tryz.ntmps24, List.size_toArray, List.length_cons, List.length_nil, Nat.reduceAdd, Nat.reduceSub, Array.replicate_succ, Array.replicate_zero, List.push_toArray, List.append_toArray, List.nil_append, List.cons_append]
  gi_wp2_with (first
    | (refine wpListIn_load_at rfl 28 _ rfl ⟨w.heap.size, 0, none⟩ rfl (.agg CW) (hL1 _ _ _) ?_)
    | ((try refine ⟨hdd _, ?_⟩); gi_at_call 25; refine (callsIn_wide.2 (HALL.out _)).mono ?_; rintro e W1 ⟨rfl, rfl⟩))
  obtain ⟨Dv, hDv⟩ : ∃ Dv : Value, Dv = .iface 36 (.pointer (some ⟨q, 0, none⟩)) := ⟨_, rfl⟩
  have HDV := Lib.hid hDv
  obtain ⟨Wb, hWb⟩ : ∃ Wb, Wb = (((((w.alloc (.cells CW 28)).alloc (.cells #[.int .i64 most] 3)).alloc (.cells #[.int .i64 limit] 3)).alloc (.cells #[.slice none 0 0] 76)).alloc (.cells #[.iface 36 (.pointer (some ⟨q, 0, none⟩))] 72)).alloc (.cells CW 28) := ⟨_, rfl⟩
  have hsz : Wb.heap.size = w.heap.size + 6 := by rw [hWb]; simp only [alloc_size]
  have HBB : Hid (Below w.heap.size w Wb) := Lib.hid (by
    rw [hWb]
    exact ((((((Below.refl _ w).alloc (Nat.le_refl _) _).alloc (by simp only [alloc_size]; omega) _).alloc (by simp only [alloc_size]; omega) _).alloc (by simp only [alloc_size]; omega) _).alloc (by simp only [alloc_size]; omega) _).alloc (by simp only [alloc_size]; omega) _)
  have HMO : Hid (Blk Wb (w.heap.size + 1) 3 #[.int .i64 most]) := Lib.hid (by rw [hWb]; exact ((((blk_last _ _ _ _ (by simp only [alloc_size])).alloc _).alloc _).alloc _).alloc _)
  have HLI : Hid (Blk Wb (w.heap.size + 1 + 1) 3 #[.int .i64 limit]) := Lib.hid (by rw [hWb]; exact (((blk_last _ _ _ _ (by simp only [alloc_size])).alloc _).alloc _).alloc _)
  have HOU : Hid (Blk Wb (w.heap.size + 1 + 1 + 1) 76 #[.slice none 0 0]) := Lib.hid (by rw [hWb]; exact ((blk_last _ _ _ _ (by simp only [alloc_size])).alloc _).alloc _)
  have HD0 : Hid (Blk Wb (w.heap.size + 1 + 1 + 1 + 1) 72 #[Dv]) := Lib.hid (by rw [hWb, hDv]; exact (blk_last _ _ _ _ (by simp only [alloc_size])).alloc _)
  have HD1 : Hid (Blk Wb (w.heap.size + 1 + 1 + 1 + 1 + 1) 28 CW) := Lib.hid (by rw [hWb]; exact blk_last _ _ _ _ (by simp only [alloc_size]))
  rw [← hWb, ← hDv]
  clear hWb hDv hL1 hFN
  obtain ⟨O, hO⟩ : ∃ O, O = w.heap.size + 1 + 1 + 1 := ⟨_, rfl⟩
  obtain ⟨b0, hb0⟩ : ∃ b0, b0 = w.heap.size + 1 + 1 + 1 + 1 := ⟨_, rfl⟩
  obtain ⟨b1, hb1⟩ : ∃ b1, b1 = w.heap.size + 1 + 1 + 1 + 1 + 1 := ⟨_, rfl⟩
  obtain ⟨bm, hbm⟩ : ∃ bm, bm = w.heap.size + 1 := ⟨_, rfl⟩
  obtain ⟨bl, hbl⟩ : ∃ bl, bl = w.heap.size + 1 + 1 := ⟨_, rfl⟩
  rw [← hb1] at HD1 ⊢
  rw [← hb0] at HD0 ⊢
  rw [← hO] at HOU ⊢
  rw [← hbl] at HLI ⊢
  rw [← hbm] at HMO ⊢
  have HAD := Lib.hid (And.intro hO (And.intro hb0 (And.intro hb1 (And.intro hbm (And.intro hbl hsz)))))
  clear hO hb0 hb1 hbm hbl
  let G : Nat → Prop := fun k => k = O ∨ k = Wb.heap.size ∨ k = Wb.heap.size + 1
  let Ws : Nat → Nat → Nat → World → Prop := fun m i j V => WalkSt O bm bl q p st F S Y ks most limit m i j V
  let Pre : WR → World → Prop := fun x V => ks[x.i]? = some x.key ∧ x.cs.size = 19 ∧ (∀ u ∈ x.cs.toList, u.oneCell' = true) ∧ Wb.heap.size + 2 ≤ x.m ∧ Ws x.m x.i (x.i + 1) V ∧ (∀ j : Nat, 0 < j → j ≤ x.i → ¬stopB most limit j) ∧
    ∃ Z ds e, wread (struckN x.i Y) (S.read (objN x.key)) = (Z, ds, e) ∧ LookAt V x.m ds e { st with key := x.key } (.agg x.cs)
  have HFL : Hid (∀ k, w.heap.size ≤ k → ¬F k) := Lib.hid fun k h hk => by have := HF.out k hk; omega
  have HPP : Hid (∀ x (V : World) (r : Nat) (o o' : Obj), Wb.heap.size ≤ r → V.heap[r]? = some o → o.isCells = false → Pre x V → Pre x (V.putObj r o')) := Lib.hid fun x V r o o' h1 h3 h4 h5 => by
    obtain ⟨p1, p2, p3, p4, p5, p6, Z, ds, e, p7, p8⟩ := h5
    refine ⟨p1, p2, p3, p4, p5.put_ h3 h4 (HFL.out r (by omega)), p6, Z, ds, e, p7, p8.keepB fun k t cs _ hb _ => World.putObj_heap_other fun e => ?_⟩
    subst e
    unfold Blk at hb
    rw [hb] at h3
    injection h3 with h3
    subst h3
    cases h4
  refine rangeFunc_any (Q := _) (w := Wb) rfl (hdd _) (gf := 77) (lb := #[.pointer (some ⟨b0, 0, none⟩), .pointer (some ⟨b1, 0, none⟩)]) rfl trivial (enters_of Tryz.func77 (by kernel_rfl) rfl) (fun x : WR => #[strV x.key, .agg x.cs]) (fun _ => rfl)
    (fun x V => V = x.W1 ∧ Pre x V)
    (fun x V => Touch (fun k => G k ∨ x.m ≤ k) x.W1 V ∧ Ws x.m (x.i + 1) (x.i + 1) V ∧ (∀ j : Nat, 0 < j → j ≤ x.i + 1 → ¬stopB most limit j))
    (fun x c V => c = .exit 0 ∧ Touch (fun k => G k ∨ x.m ≤ k) x.W1 V ∧ Ws x.m (x.i + 1) (x.i + 1) V ∧ ks[x.i]? = some x.key ∧ Wb.heap.size + 2 ≤ x.m ∧ stopB most limit (x.i + 1) ∧ (∀ j : Nat, 0 < j → j < x.i + 1 → ¬stopB most limit j))
    (fun V => Below Wb.heap.size Wb V ∧ Wb.heap.size + 2 ≤ V.heap.size)
    (fun V => ∃ m, Wb.heap.size + 2 ≤ m ∧ Ws m ks.length ks.length V ∧ Touch F w V ∧ (∀ j : Nat, 0 < j → j ≤ ks.length → ¬stopB most limit j))
    (fun c V => c = .exit 0 ∧ ∃ m i, Wb.heap.size + 2 ≤ m ∧ Ws m i i V ∧ Touch F w V ∧ 0 < i ∧ i ≤ ks.length ∧ stopB most limit i ∧ (∀ j : Nat, 0 < j → j < i → ¬stopB most limit j))
    ?hseq ?hJ ?hIx ?hE ?hEx ?h0
    (fun x a V => ∃ b, x.m ≤ b ∧ Blk V b 57 x.cs ∧ a = { tmps := #[Dv, .agg CW, .int .i64 most, .int .i64 limit, undef, .pointer (some ⟨w.heap.size, 0, none⟩), .pointer (some ⟨bm, 0, none⟩), .pointer (some ⟨bl, 0, none⟩), .slice none 0 0, .pointer (some ⟨O, 0, none⟩), .func (.func 77) #[] #[.pointer (some ⟨b0, 0, none⟩), .pointer (some ⟨b1, 0, none⟩)], strV x.key, .pointer (some ⟨b, 0, none⟩), Dv, .agg CW, .func (.func 77) #[] #[.pointer (some ⟨b0, 0, none⟩), .pointer (some ⟨b1, 0, none⟩)], .func (.func 77) #[] #[.pointer (some ⟨b0, 0, none⟩), .pointer (some ⟨b1, 0, none⟩)], .bool false, undef, undef, .func (.func 77) #[] #[.pointer (some ⟨b0, 0, none⟩), .pointer (some ⟨b1, 0, none⟩)], strV x.key, .agg x.cs, undef, undef, undef, undef, undef, undef, undef, undef, undef, undef, undef, undef, undef, undef, undef, undef, undef, undef, undef, undef, undef], defers := [] } ∧ Pre x V ∧ Touch (fun k => G k ∨ x.m ≤ k) x.W1 V)
    ?hM ?hassign ?hbody ?hdone ?hstop
  case hseq =>
    intro l K Kx hK hKx hround V hV hI0 hKV
    obtain ⟨hI1, hI2⟩ := hI0
    have had := HAD.out
    have hB : Below w.heap.size w V := HBB.out.trans (hI1.mono HBB.out.size)
    have hFV : ∀ k, F k → k < V.heap.size := fun k hk => Nat.lt_of_lt_of_le (HF.out k hk) hB.size
    have h := all1_in (n - 1) l b0 b1 q p X S F V st HST.out ct HN.out.1 HN.out.2.1 (Nat.le_trans HN.out.2.2.1 (by omega)) HN.out.2.2.2 (HD.out.below hB) hFV HX.out HCT.out HS.out Y ls x HYY.out
      (by rw [← HDV.out]; exact HD0.out.below hI1 HD0.out.lt) ⟨st.key, by have h9 := HD1.out.below hI1 HD1.out.lt; rw [HCE.out] at h9; exact h9⟩ (HFL.out _ (by omega)) (HFL.out _ (by omega))
      G (fun k hk => by rcases hk with h | h | h <;> omega) (fun k hk h => HFL.out k (by rcases h with h | h | h <;> omega) hk) (fun h => by rcases h with h | h | h <;> omega) (fun h => by rcases h with h | h | h <;> omega)
      (fun m i V2 => (Ws m i i V2 ∧ Touch F w V2 ∧ (∀ j : Nat, 0 < j → j ≤ i → ¬stopB most limit j) ∧ Wb.heap.size + 2 ≤ m) ∧ K V2)
      (fun V2 => (∃ m i, Wb.heap.size + 2 ≤ m ∧ Ws m i i V2 ∧ Touch F w V2 ∧ 0 < i ∧ i ≤ ks.length ∧ stopB most limit i ∧ (∀ j : Nat, 0 < j → j < i → ¬stopB most limit j)) ∧ Kx (.exit 0) V2)
      ?gJ ?gJx ?g0 ?gY
    case gJ =>
      rintro m i V1 r o o' h1 h2 h3 ⟨⟨r1, r2, r3, r4⟩, hk⟩
      exact ⟨⟨r1.put_ h2 h3 (HFL.out r (by omega)), r2.trans (Touch.put_ (G := grow F w V1) (Touch.refl _ V1) (.inr ⟨by omega, (Array.getElem?_eq_some_iff.1 h2).1⟩) o'), r3, r4⟩, hK V1 _ (fun k k1 k2 => World.putObj_heap_other (by omega)) hk⟩
    case gJx =>
      rintro V1 r o o' h1 h2 h3 ⟨⟨m, i, r1, r2, r3, r4⟩, hk⟩
      exact ⟨⟨m, i, r1, r2.put_ h2 h3 (HFL.out r (by omega)), r3.trans (Touch.put_ (G := grow F w V1) (Touch.refl _ V1) (.inr ⟨by omega, (Array.getElem?_eq_some_iff.1 h2).1⟩) o'), r4⟩, hKx _ V1 _ (fun k k1 k2 => World.putObj_heap_other (by omega)) hk⟩
    case g0 =>
      intro V1 hd1 ht1
      exact ⟨⟨⟨hd1, ⟨_, [], (HOU.out.below hI1 HOU.out.lt).touch ht1 (HFL.out _ (by omega)), World.ownsRow_nil _ _ _ _, rfl, fun j p h => by cases h⟩, (HMO.out.below hI1 HMO.out.lt).touch ht1 (HFL.out _ (by omega)), (HLI.out.below hI1 HLI.out.lt).touch ht1 (HFL.out _ (by omega)), Nat.le_refl _⟩,
        (Touch.of_below hB).trans (ht1.mono fun k _ h => .inl h), fun j h1 h2 => by omega, Nat.le_trans hI2 ht1.size⟩, hK V V1 (Lies.touch ht1 (HFL.out _ (by omega)) (HFL.out _ (by omega)) hI2) hKV⟩
    case gY =>
      rintro m i key v V1 V2 Z ds e hkey hm hle ⟨⟨hws, htw, hns, hmB⟩, hk1⟩ ht12 hrd hlk hwd _
      obtain ⟨cs, rfl, hcs, hone⟩ := look_agg hlk
      have hF2 : ∀ k, F k ∨ k = b1 → k < Wb.heap.size := fun k h => by rcases h with h | h; have := HF.out k h; omega; omega
      have hpre : Pre ⟨m, i, key, cs, V2⟩ V2 := ⟨by rw [HKS.out]; exact hkey, hcs, hone, hmB, hws.touch ht12 (i + 1) hwd (fun k h => by have := hF2 k h; omega) (fun h => by rcases h with h | h; exact HFL.out _ (by omega) h; omega) (fun h => by rcases h with h | h; exact HFL.out _ (by omega) h; omega) (fun h => by rcases h with h | h; exact HFL.out _ (by omega) h; omega), hns, Z, ds, e, hrd, hlk.base hle⟩
      have hk2 : K V2 := hK V1 V2 (Lies.touch ht12 (fun h => by have := hF2 _ h; omega) (fun h => by have := hF2 _ h; omega) (by omega)) hk1
      have htw2 : Touch F w V2 := htw.trans (ht12.mono fun k hk h => by
        rcases h with h | h
        · exact .inl h
        · exact .inr ⟨by omega, hk⟩)
      refine (YieldAt.any rfl _ (hround ⟨m, i, key, cs, V2⟩ V2 ⟨rfl, hpre⟩ hk2)).mono ?_
      have htw3 : ∀ V3, Touch (fun k => G k ∨ m ≤ k) V2 V3 → Touch F w V3 := fun V3 h3 => htw2.trans (h3.mono fun k hk h => by
        refine .inr ⟨?_, hk⟩
        rcases h with (h | h | h) | h <;> omega)
      rintro e V3 (⟨rfl, ⟨ht3, hws3, hns3⟩, hk3⟩ | ⟨rfl, c, ⟨rfl, ht3, hws3, hkx', hmB', hsb, hns3⟩, hkx⟩)
      · exact .inl ⟨rfl, ⟨⟨hws3, htw3 V3 ht3, hns3, hmB⟩, hk3⟩, ht3⟩
      · exact .inr ⟨rfl, ⟨⟨m, i + 1, hmB, hws3, htw3 V3 ht3, Nat.succ_pos _, (List.getElem?_eq_some_iff.1 hkx').1, hsb, hns3⟩, hkx⟩, ht3⟩
    refine CallsIn.mono h ?_
    rintro e V2 ⟨hv, (⟨m, ⟨q2, q3, q4, q1⟩, hk⟩ | ⟨hx, hkx⟩)⟩
    · rw [← HKS.out] at q2 q4
      exact ⟨hv, .inl ⟨⟨m, q1, q2, q3, q4⟩, hk⟩⟩
    · exact ⟨hv, .inr ⟨.exit 0, ⟨rfl, hx⟩, hkx⟩⟩
  case hJ => exact fun x V r o o' h1 h2 h3 h4 h5 => ⟨h5.1.put_ (.inl (.inr (by omega))) o', h5.2.1.put_ h3 h4 (HFL.out r (by omega)), h5.2.2⟩
  case hIx => exact fun x c V r o o' h1 h2 h3 h4 h5 => ⟨h5.1, h5.2.1.put_ (.inl (.inr (by omega))) o', h5.2.2.1.put_ h3 h4 (HFL.out r (by omega)), h5.2.2.2⟩
  case hE =>
    rintro V r o o' h1 h2 h3 h4 ⟨m, q1, q2, q3, q4⟩
    exact ⟨m, q1, q2.put_ h3 h4 (HFL.out r (by omega)), q3.trans (Touch.put_ (G := grow F w V) (Touch.refl _ V) (.inr ⟨by omega, (Array.getElem?_eq_some_iff.1 h3).1⟩) o'), q4⟩
  case hEx =>
    rintro c V r o o' h1 h2 h3 h4 ⟨rfl, m, i, q1, q2, q3, q4⟩
    exact ⟨rfl, m, i, q1, q2.put_ h3 h4 (HFL.out r (by omega)), q3.trans (Touch.put_ (G := grow F w V) (Touch.refl _ V) (.inr ⟨by omega, (Array.getElem?_eq_some_iff.1 h3).1⟩) o'), q4⟩
  case h0 => exact fun o1 o2 => ⟨((Below.refl _ Wb).alloc (Nat.le_refl _) _).alloc (by rw [alloc_size]; omega) _, by rw [alloc_size, alloc_size]; exact Nat.le_refl _⟩
  case hM =>
    rintro x a V r o o' h1 h2 h3 h4 ⟨b, q1, q2, rfl, q4, q5⟩
    exact ⟨b, q1, q2.put_ (fun e => by have := q4.2.2.2.1; omega) o', rfl, HPP.out x V r o o' h1 h3 h4 q4, q5.put_ (.inl (.inr (by omega))) o'⟩
  case hassign =>
    rintro l x V K ⟨rfl, hpre⟩ hV hK
    have HP := Lib.hid hpre
    obtain ⟨W2, hr2, hk2, ht2, hs2⟩ := store_seen (w := x.W1.alloc (.cells (seen0 0 0) 57)) (R := x.W1.heap.size) (CK := x.cs) (Blk.new _ _ _) rfl hpre.2.1 hpre.2.2.1
    have HB2 : Hid (Below x.W1.heap.size x.W1 W2) := Lib.hid (((Below.refl _ x.W1).alloc (Nat.le_refl _) _).trans (ht2.below (by rw [alloc_size]; exact Nat.le_succ _) (fun k hk => Nat.le_of_eq hk.symm)))
    have HK2 := Lib.hid hk2
    clear hpre hk2 ht2 hs2
    gi_wp2_with (refine wpListIn_store_at rfl 57 _ _ rfl ⟨x.W1.heap.size, 0, none⟩ rfl (.agg x.cs) rfl W2 hr2 ?_)
    refine hK _ _ (Lies.below HB2.out (by have := HP.out.2.2.2.1; have := HP.out.2.2.2.2.1.le; omega)) ⟨x.W1.heap.size, HP.out.2.2.2.2.1.le, HK2.out, rfl, ?_, Touch.of_below HB2.out⟩
    obtain ⟨p1, p2, p3, p4, p5, p6, Z, ds, e, p7, p8⟩ := HP.out
    exact ⟨p1, p2, p3, p4, p5.touch (Touch.of_below (F := fun _ => False) HB2.out) _ (p5.wd.below HB2.out) (fun _ h => h.elim) (fun h => h) (fun h => h) (fun h => h), p6, Z, ds, e, p7, p8.keepB fun k t cs _ hb _ => HB2.out.block k hb.lt⟩
  case hbody =>
    rintro l x a V ⟨b, hmb, hbk, rfl, hpre, ht⟩ hV
    have had := HAD.out
    have HP := Lib.hid hpre
    have HT := Lib.hid ht
    have HBK := Lib.hid hbk
    have HMB := Lib.hid hmb
    obtain ⟨v, us, hbo, hrow, hlen, htold⟩ := hpre.2.2.2.2.1.row
    obtain ⟨A, c, rfl, _⟩ := own_shape hrow
    have hcO : V.cell? ⟨O, 0, none⟩ = some (.slice A x.i c) := hbo.cell 0
    have hL := load_seen hbk hpre.2.1
    have HR := Lib.hid hrow
    have HBO := Lib.hid hbo
    have HLN := Lib.hid hlen
    have HTO := Lib.hid htold
    have HCS := Lib.hid hpre.2.1
    have hil : x.i < ks.length := (List.getElem?_eq_some_iff.1 hpre.1).1
    have HIL : Hid (x.i < 549755813888) := Lib.hid (Nat.lt_of_lt_of_le hil HKL.out)
    obtain ⟨tt, htt⟩ : ∃ tt : ByteArray, strV x.key = .string tt := ⟨_, rfl⟩
    rw [htt]
    have HTT := Lib.hid htt
    have HPC : Hid (∀ (j : Nat) (u : Value), (pairC (.string tt) x.cs).toList[j]? = some u → (V.alloc (.cells (pairC (.string tt) x.cs) 82)).cell? ((⟨V.heap.size, 0, none⟩ : Addr).add j) = some u) := Lib.hid fun j u hu => by
      rw [add_plain, Nat.zero_add, (Blk.new V _ _).cell]
      rw [Array.getElem?_toList] at hu
      exact hu
    have HP1 : Hid (∀ u ∈ (pairC (.string tt) x.cs).toList, u.oneCell' = true) := Lib.hid fun u hu => by
      rcases List.mem_cons.1 hu with h | h
      · rw [h]; rfl
      · exact hpre.2.2.1 u h
    have hOn : some O ≠ (Value.slice A x.i c).ownBlock := fun e => by have := (hrow.lt O e.symm).1; have := hpre.2.2.2.1; omega
    have HC3 : Hid (∀ (cs : Array Value) (V3 : World), (V.alloc (.cells cs 82)).grownBy V3 (Value.slice A x.i c).ownBlock → V3.cell? ⟨O, 0, none⟩ = some (.slice A x.i c)) := Lib.hid fun cs V3 hg => ((hbo.alloc _).grown hg hOn).cell 0
    have HF3 : Hid (∀ (cs : Array Value) (V3 : World), (V.alloc (.cells cs 82)).grownBy V3 (Value.slice A x.i c).ownBlock → V3.frozen? ⟨O, 0, none⟩ = false) := Lib.hid fun cs V3 hg => ((hbo.alloc _).grown hg hOn).frozen 0
    obtain ⟨N, hN⟩ : ∃ N, N = x.i + 1 := ⟨_, rfl⟩
    have HNN := Lib.hid hN
    have hgk : ∀ {g : Nat} {t : TypeId} {cs cs2 : Array Value} {V3 : World}, g < Wb.heap.size → Blk V g t cs → (V.alloc (.cells cs2 82)).grownBy V3 (Value.slice A x.i c).ownBlock → Blk V3 g t cs := fun hlt hb hg => (hb.alloc _).grown hg (fun e => by have := (hrow.lt _ e.symm).1; have := hpre.2.2.2.1; omega)
    have HCM : Hid (∀ (cs : Array Value) (V3 : World), (V.alloc (.cells cs 82)).grownBy V3 (Value.slice A x.i c).ownBlock → V3.cell? ⟨bm, 0, none⟩ = some (.int .i64 most) ∧ V3.cell? ⟨bl, 0, none⟩ = some (.int .i64 limit)) := Lib.hid fun cs V3 hg =>
      ⟨(hgk (by omega) hpre.2.2.2.2.1.mo hg).cell 0, (hgk (by omega) hpre.2.2.2.2.1.li hg).cell 0⟩
    have HFIN : Hid (∀ (V3 : World) (A3 : Option Addr) (c3 : Nat), V3.ownsRow x.m 82 20 (.slice A3 N c3) N (flatP us ++ (pairC (.string tt) x.cs).toList) → (V.alloc (.cells (pairC (.string tt) x.cs) 82)).grownBy V3 (Value.slice A x.i c).ownBlock →
        Lies Wb.heap.size V (V3.setCell ⟨O, 0, none⟩ (.slice A3 N c3)) ∧ Touch (fun k => G k ∨ x.m ≤ k) x.W1 (V3.setCell ⟨O, 0, none⟩ (.slice A3 N c3)) ∧ Ws x.m (x.i + 1) (x.i + 1) (V3.setCell ⟨O, 0, none⟩ (.slice A3 N c3))) := Lib.hid fun V3 A3 c3 hO3 hG3 => by
      obtain ⟨p1, p2, p3, p4, p5, p6, Z, ds, e, p7, p8⟩ := HP.out
      have hmo : ∀ k, (Value.slice A x.i c).ownBlock = some k → x.m ≤ k ∧ k < V.heap.size := fun k hk => HR.out.lt k hk
      have htt3 : Touch (fun k => k = O ∨ (Value.slice A x.i c).ownBlock = some k) V (V3.setCell ⟨O, 0, none⟩ (.slice A3 N c3)) :=
        ((Touch.alloc (F := fun k => k = O ∨ (Value.slice A x.i c).ownBlock = some k) V _).trans ((Touch.of_grown (F := fun k => (Value.slice A x.i c).ownBlock = some k) hG3 (fun k hk => hk)).mono fun k _ hk => .inl (.inr hk))).trans (Touch.setCell _ _ _ (.inl (.inl rfl)))
      have hkp : ∀ k t cs, x.m ≤ k → Blk V k t cs → t ≠ 82 → (V3.setCell ⟨O, 0, none⟩ (.slice A3 N c3)).heap[k]? = V.heap[k]? := fun k t cs hk hb hne => htt3.block k hb.lt (fun h => by
        rcases h with h | h
        · omega
        · rcases HR.out.2 with ⟨h2, _⟩ | ⟨g, cap, cur, h2, _, hg, _⟩
          · rw [h2] at h; cases h
          · rw [h2] at h
            have : g = k := by simpa [Value.ownBlock] using h
            subst this
            unfold Blk at hb
            rw [hb] at hg
            injection hg with hg
            injection hg with _ hg
            exact hne hg)
      have hbs : ∀ {g : Nat} {t : TypeId} {cs : Array Value}, g ≠ O → g < Wb.heap.size → Blk V g t cs → Blk (V3.setCell ⟨O, 0, none⟩ (.slice A3 N c3)) g t cs := fun hne hlt hb => hb.touch htt3 (fun h => by
        rcases h with h | h
        · exact hne h
        · have := (hmo _ h).1; omega)
      refine ⟨fun k k1 k2 => htt3.block k (by have := p5.le; omega) (fun h => by rcases h with h | h; omega; have := (hmo k h).1; omega), HT.out.trans (htt3.mono fun k _ h => ?_), ?_⟩
      · rcases h with h | h
        · exact .inl (.inl (.inl h))
        · exact .inl (.inr (hmo k h).1)
      · refine ⟨p5.wd.keep htt3 (fun k hk h => by rcases h with h | h; exact HFL.out k (by omega) hk; have := (hmo k h).1; exact HFL.out k (by omega) hk), ⟨.slice A3 N c3, us ++ [(x.key, x.cs)], ?_, ?_, by rw [List.length_append, HLN.out]; rfl, ?_⟩, hbs (by omega) (by omega) p5.mo, hbs (by omega) (by omega) p5.li, Nat.le_trans p5.le htt3.size⟩
        · exact ((HBO.out.alloc _).grown hG3 (fun e => by have := (hmo O e.symm).1; omega)).set_ 0 _
        · rw [flatP_snoc, HTT.out, ← HNN.out]
          exact ownsRow_keepB hO3 fun k cs hk _ => Below.heap_setCell _ _ _ k (by show k ≠ O; omega)
        · intro j p hj
          by_cases hjl : j < us.length
          · rw [List.getElem?_append_left hjl] at hj
            obtain ⟨r1, r2, Z2, ds2, e2, r3, r4⟩ := HTO.out j p hj
            exact ⟨r1, r2, Z2, ds2, e2, r3, r4.keepB fun k t cs hk hb ht => hkp k t cs hk hb (by rcases ht with rfl | rfl <;> decide)⟩
          · rw [List.getElem?_append_right (by omega)] at hj
            have hj0 : j - us.length = 0 := by have := (List.getElem?_eq_some_iff.1 hj).1; simp at this; omega
            rw [hj0] at hj
            injection hj with hj
            subst hj
            obtain rfl : j = x.i := by have := HLN.out; omega
            exact ⟨p1, p2, Z, ds, e, p7, p8.keepB fun k t cs hk hb ht => hkp k t cs hk hb (by rcases ht with rfl | rfl <;> decide)⟩
    have hcase : (0 ≤ most ∧ most < (N : Int)) ∨ (0 ≤ most ∧ ¬most < (N : Int) ∧ limit < (N : Int)) ∨ (0 ≤ most ∧ ¬most < (N : Int) ∧ ¬limit < (N : Int)) ∨ (¬0 ≤ most ∧ limit < (N : Int)) ∨ (¬0 ≤ most ∧ ¬limit < (N : Int)) := by omega
    have HNS := Lib.hid hpre.2.2.2.2.2.1
    have HKB := Lib.hid (And.intro hpre.1 hpre.2.2.2.1)
    have hn1 : ¬bm = O := by omega
    have hn2 : ¬bl = O := by omega
    obtain ⟨i9, hi9, hz0, hz1, hz2⟩ := info_parts pairInfo
    have hmV : x.m ≤ V.heap.size := hpre.2.2.2.2.1.le
    clear hpre ht hbk hmb hrow hbo hlen htold hil htt hN had hOn hgk hsz
    rcases hcase with ⟨c1, c2⟩ | ⟨c1, c2, c3'⟩ | ⟨c1, c2, c3'⟩ | ⟨c1, c3'⟩ | ⟨c1, c3'⟩
    · have HST1 : Hid (stopB most limit N) := Lib.hid (.inl ⟨c1, c2⟩)
      gi_wp2_with (first
        | (refine wpListIn_load_at rfl 57 _ rfl ⟨b, 0, none⟩ rfl (.agg x.cs) hL ?_)
        | (refine wpListIn_build_at rfl 82 #[(0, .tmp 24), (1, .tmp 25)] rfl #[(0, .string tt), (1, .agg x.cs)] (by simp [Act.eval]; first | exact ⟨rfl, rfl⟩ | rfl) (.agg (pairC (.string tt) x.cs)) (build_pair tt HCS.out V) ?_)
        | (refine wpListIn_slice_at rfl 76 1 #[(0, .tmp 26)] rfl #[(0, .agg (pairC (.string tt) x.cs))] (by simp [Act.eval]; first | exact ⟨rfl, rfl⟩ | rfl) (.slice (some ⟨V.heap.size, 0, none⟩) 1 1) (V.alloc (.cells (pairC (.string tt) x.cs) 82)) (slice_pair (.string tt) HCS.out V) ?_)
        | (refine wpListIn_append_own _ rfl _ _ 76 rfl x.m 82 i9 _ 20 136 Tryz.underlying76 hi9 hz0 hz1 hz2 rfl (by decide) _ x.i _ rfl (HR.out.alloc _) ⟨V.heap.size, 0, none⟩ 1 1 (pairC (.string tt) x.cs).toList rfl (by rw [pairC_size HCS.out]) HPC.out HP1.out (by have := HIL.out; unfold maxLen; omega) (by have := HIL.out; omega) (by rw [alloc_size]; omega) ?_; intro v3 V3 hown3 hg3 _; rw [← HNN.out] at hown3; obtain ⟨A3, c3, rfl, _⟩ := own_shape hown3; have HO3 := Lib.hid hown3; have HG3 := Lib.hid hg3; clear hown3 hg3; have hcO3 : V3.cell? ⟨O, 0, none⟩ = some (.slice A x.i c) := HC3.out _ _ HG3.out; have hfO3 := HF3.out _ _ HG3.out; obtain ⟨hcm3, hcl3⟩ := HCM.out _ _ HG3.out))
      obtain ⟨f1, f2, f3⟩ := HFIN.out V3 A3 c3 HO3.out HG3.out
      exact ⟨f1, rfl, f2, f3, HKB.out.1, HKB.out.2, by rw [← HNN.out]; exact HST1.out, fun j h1 h2 => HNS.out j h1 (by omega)⟩
    · have HST1 : Hid (stopB most limit N) := Lib.hid (.inr c3')
      gi_wp2_with (first
        | (refine wpListIn_load_at rfl 57 _ rfl ⟨b, 0, none⟩ rfl (.agg x.cs) hL ?_)
        | (refine wpListIn_build_at rfl 82 #[(0, .tmp 24), (1, .tmp 25)] rfl #[(0, .string tt), (1, .agg x.cs)] (by simp [Act.eval]; first | exact ⟨rfl, rfl⟩ | rfl) (.agg (pairC (.string tt) x.cs)) (build_pair tt HCS.out V) ?_)
        | (refine wpListIn_slice_at rfl 76 1 #[(0, .tmp 26)] rfl #[(0, .agg (pairC (.string tt) x.cs))] (by simp [Act.eval]; first | exact ⟨rfl, rfl⟩ | rfl) (.slice (some ⟨V.heap.size, 0, none⟩) 1 1) (V.alloc (.cells (pairC (.string tt) x.cs) 82)) (slice_pair (.string tt) HCS.out V) ?_)
        | (refine wpListIn_append_own _ rfl _ _ 76 rfl x.m 82 i9 _ 20 136 Tryz.underlying76 hi9 hz0 hz1 hz2 rfl (by decide) _ x.i _ rfl (HR.out.alloc _) ⟨V.heap.size, 0, none⟩ 1 1 (pairC (.string tt) x.cs).toList rfl (by rw [pairC_size HCS.out]) HPC.out HP1.out (by have := HIL.out; unfold maxLen; omega) (by have := HIL.out; omega) (by rw [alloc_size]; omega) ?_; intro v3 V3 hown3 hg3 _; rw [← HNN.out] at hown3; obtain ⟨A3, c3, rfl, _⟩ := own_shape hown3; have HO3 := Lib.hid hown3; have HG3 := Lib.hid hg3; clear hown3 hg3; have hcO3 : V3.cell? ⟨O, 0, none⟩ = some (.slice A x.i c) := HC3.out _ _ HG3.out; have hfO3 := HF3.out _ _ HG3.out; obtain ⟨hcm3, hcl3⟩ := HCM.out _ _ HG3.out))
      obtain ⟨f1, f2, f3⟩ := HFIN.out V3 A3 c3 HO3.out HG3.out
      exact ⟨f1, rfl, f2, f3, HKB.out.1, HKB.out.2, by rw [← HNN.out]; exact HST1.out, fun j h1 h2 => HNS.out j h1 (by omega)⟩
    · have HST1 : Hid (¬stopB most limit N) := Lib.hid (fun h => by rcases h with ⟨_, h⟩ | h; exact c2 h; exact c3' h)
      gi_wp2_with (first
        | (refine wpListIn_load_at rfl 57 _ rfl ⟨b, 0, none⟩ rfl (.agg x.cs) hL ?_)
        | (refine wpListIn_build_at rfl 82 #[(0, .tmp 24), (1, .tmp 25)] rfl #[(0, .string tt), (1, .agg x.cs)] (by simp [Act.eval]; first | exact ⟨rfl, rfl⟩ | rfl) (.agg (pairC (.string tt) x.cs)) (build_pair tt HCS.out V) ?_)
        | (refine wpListIn_slice_at rfl 76 1 #[(0, .tmp 26)] rfl #[(0, .agg (pairC (.string tt) x.cs))] (by simp [Act.eval]; first | exact ⟨rfl, rfl⟩ | rfl) (.slice (some ⟨V.heap.size, 0, none⟩) 1 1) (V.alloc (.cells (pairC (.string tt) x.cs) 82)) (slice_pair (.string tt) HCS.out V) ?_)
        | (refine wpListIn_append_own _ rfl _ _ 76 rfl x.m 82 i9 _ 20 136 Tryz.underlying76 hi9 hz0 hz1 hz2 rfl (by decide) _ x.i _ rfl (HR.out.alloc _) ⟨V.heap.size, 0, none⟩ 1 1 (pairC (.string tt) x.cs).toList rfl (by rw [pairC_size HCS.out]) HPC.out HP1.out (by have := HIL.out; unfold maxLen; omega) (by have := HIL.out; omega) (by rw [alloc_size]; omega) ?_; intro v3 V3 hown3 hg3 _; rw [← HNN.out] at hown3; obtain ⟨A3, c3, rfl, _⟩ := own_shape hown3; have HO3 := Lib.hid hown3; have HG3 := Lib.hid hg3; clear hown3 hg3; have hcO3 : V3.cell? ⟨O, 0, none⟩ = some (.slice A x.i c) := HC3.out _ _ HG3.out; have hfO3 := HF3.out _ _ HG3.out; obtain ⟨hcm3, hcl3⟩ := HCM.out _ _ HG3.out))
      obtain ⟨f1, f2, f3⟩ := HFIN.out V3 A3 c3 HO3.out HG3.out
      refine ⟨f1, f2, f3, fun j h1 h2 hs => ?_⟩
      by_cases hj : j ≤ x.i
      · exact HNS.out j h1 hj hs
      · obtain rfl : j = N := by have := HNN.out; omega
        exact HST1.out hs
    · have HST1 : Hid (stopB most limit N) := Lib.hid (.inr c3')
      gi_wp2_with (first
        | (refine wpListIn_load_at rfl 57 _ rfl ⟨b, 0, none⟩ rfl (.agg x.cs) hL ?_)
        | (refine wpListIn_build_at rfl 82 #[(0, .tmp 24), (1, .tmp 25)] rfl #[(0, .string tt), (1, .agg x.cs)] (by simp [Act.eval]; first | exact ⟨rfl, rfl⟩ | rfl) (.agg (pairC (.string tt) x.cs)) (build_pair tt HCS.out V) ?_)
        | (refine wpListIn_slice_at rfl 76 1 #[(0, .tmp 26)] rfl #[(0, .agg (pairC (.string tt) x.cs))] (by simp [Act.eval]; first | exact ⟨rfl, rfl⟩ | rfl) (.slice (some ⟨V.heap.size, 0, none⟩) 1 1) (V.alloc (.cells (pairC (.string tt) x.cs) 82)) (slice_pair (.string tt) HCS.out V) ?_)
        | (refine wpListIn_append_own _ rfl _ _ 76 rfl x.m 82 i9 _ 20 136 Tryz.underlying76 hi9 hz0 hz1 hz2 rfl (by decide) _ x.i _ rfl (HR.out.alloc _) ⟨V.heap.size, 0, none⟩ 1 1 (pairC (.string tt) x.cs).toList rfl (by rw [pairC_size HCS.out]) HPC.out HP1.out (by have := HIL.out; unfold maxLen; omega) (by have := HIL.out; omega) (by rw [alloc_size]; omega) ?_; intro v3 V3 hown3 hg3 _; rw [← HNN.out] at hown3; obtain ⟨A3, c3, rfl, _⟩ := own_shape hown3; have HO3 := Lib.hid hown3; have HG3 := Lib.hid hg3; clear hown3 hg3; have hcO3 : V3.cell? ⟨O, 0, none⟩ = some (.slice A x.i c) := HC3.out _ _ HG3.out; have hfO3 := HF3.out _ _ HG3.out; obtain ⟨hcm3, hcl3⟩ := HCM.out _ _ HG3.out))
      obtain ⟨f1, f2, f3⟩ := HFIN.out V3 A3 c3 HO3.out HG3.out
      exact ⟨f1, rfl, f2, f3, HKB.out.1, HKB.out.2, by rw [← HNN.out]; exact HST1.out, fun j h1 h2 => HNS.out j h1 (by omega)⟩
    · have HST1 : Hid (¬stopB most limit N) := Lib.hid (fun h => by rcases h with ⟨h, _⟩ | h; exact c1 h; exact c3' h)
      gi_wp2_with (first
        | (refine wpListIn_load_at rfl 57 _ rfl ⟨b, 0, none⟩ rfl (.agg x.cs) hL ?_)
        | (refine wpListIn_build_at rfl 82 #[(0, .tmp 24), (1, .tmp 25)] rfl #[(0, .string tt), (1, .agg x.cs)] (by simp [Act.eval]; first | exact ⟨rfl, rfl⟩ | rfl) (.agg (pairC (.string tt) x.cs)) (build_pair tt HCS.out V) ?_)
        | (refine wpListIn_slice_at rfl 76 1 #[(0, .tmp 26)] rfl #[(0, .agg (pairC (.string tt) x.cs))] (by simp [Act.eval]; first | exact ⟨rfl, rfl⟩ | rfl) (.slice (some ⟨V.heap.size, 0, none⟩) 1 1) (V.alloc (.cells (pairC (.string tt) x.cs) 82)) (slice_pair (.string tt) HCS.out V) ?_)
        | (refine wpListIn_append_own _ rfl _ _ 76 rfl x.m 82 i9 _ 20 136 Tryz.underlying76 hi9 hz0 hz1 hz2 rfl (by decide) _ x.i _ rfl (HR.out.alloc _) ⟨V.heap.size, 0, none⟩ 1 1 (pairC (.string tt) x.cs).toList rfl (by rw [pairC_size HCS.out]) HPC.out HP1.out (by have := HIL.out; unfold maxLen; omega) (by have := HIL.out; omega) (by rw [alloc_size]; omega) ?_; intro v3 V3 hown3 hg3 _; rw [← HNN.out] at hown3; obtain ⟨A3, c3, rfl, _⟩ := own_shape hown3; have HO3 := Lib.hid hown3; have HG3 := Lib.hid hg3; clear hown3 hg3; have hcO3 : V3.cell? ⟨O, 0, none⟩ = some (.slice A x.i c) := HC3.out _ _ HG3.out; have hfO3 := HF3.out _ _ HG3.out; obtain ⟨hcm3, hcl3⟩ := HCM.out _ _ HG3.out))
      obtain ⟨f1, f2, f3⟩ := HFIN.out V3 A3 c3 HO3.out HG3.out
      refine ⟨f1, f2, f3, fun j h1 h2 hs => ?_⟩
      by_cases hj : j ≤ x.i
      · exact HNS.out j h1 hj hs
      · obtain rfl : j = N := by have := HNN.out; omega
        exact HST1.out hs
  case hdone =>
    rintro V ⟨m, q1, q2, q3, q4⟩ hd
    have had := HAD.out
    have q2' := q2.put_ (o' := .deferred none) hd rfl (HFL.out _ (by omega))
    have q3' : Touch F w (V.putObj Wb.heap.size (.deferred none)) := q3.trans (Touch.put_ (G := grow F w V) (Touch.refl _ V) (.inr ⟨by omega, (Array.getElem?_eq_some_iff.1 hd).1⟩) _)
    obtain ⟨v, us, hbO', hrow, hlen, hto⟩ := q2'.row
    have hbO : Blk V O 76 #[v] := (World.putObj_heap_other (show O ≠ Wb.heap.size by omega)).symm.trans hbO'
    obtain ⟨A, c, rfl, _⟩ := own_shape hrow
    have hcO : V.cell? ⟨O, 0, none⟩ = some (.slice A ks.length c) := hbO.cell 0
    have HR := Lib.hid hrow
    have HTO := Lib.hid hto
    have HL := Lib.hid hlen
    have HQ := Lib.hid (And.intro q4 (And.intro q2'.wd (And.intro q3' q1)))
    have HDF := Lib.hid hd
    clear q1 q2 q3 q4 q2' q3' hbO' hrow hlen hto hbO hd had
    gi_wp2
    refine ⟨by simp, .inl ⟨_, _, rfl, run_takeDeferred HDF.out, ?_⟩⟩
    refine ⟨_, results_tmp rfl _ _ _, _, us, rfl, by rw [HL.out]; exact ownsRow_base_a HR.out (by have := HQ.out.2.2.2; have := HAD.out; omega), fun j p hj => ?_, Nat.le_of_eq HL.out, fun j h1 h2 => HQ.out.1 j h1 (by have := HL.out; omega), .inl HL.out, by rw [HL.out]; exact HQ.out.2.1, HQ.out.2.2.1⟩
    obtain ⟨r1, r2, Z, ds, e, r3, r4⟩ := HTO.out j p hj
    exact ⟨r1, r2, Z, ds, e, r3, r4.base (by have := HQ.out.2.2.2; have := HAD.out; omega)⟩
  case hstop =>
    rintro c V ⟨rfl, m, i, q1, q2, q3, q4⟩ hd
    have had := HAD.out
    have q2' := q2.put_ (o' := .deferred none) hd rfl (HFL.out _ (by omega))
    have q3' : Touch F w (V.putObj Wb.heap.size (.deferred none)) := q3.trans (Touch.put_ (G := grow F w V) (Touch.refl _ V) (.inr ⟨by omega, (Array.getElem?_eq_some_iff.1 hd).1⟩) _)
    obtain ⟨v, us, hbO', hrow, hlen, hto⟩ := q2'.row
    have hbO : Blk V O 76 #[v] := (World.putObj_heap_other (show O ≠ Wb.heap.size by omega)).symm.trans hbO'
    obtain ⟨A, c, rfl, _⟩ := own_shape hrow
    have hcO : V.cell? ⟨O, 0, none⟩ = some (.slice A i c) := hbO.cell 0
    have HR := Lib.hid hrow
    have HTO := Lib.hid hto
    have HL := Lib.hid hlen
    have HQ := Lib.hid (And.intro q4 (And.intro q2'.wd (And.intro q3' q1)))
    have HDF := Lib.hid hd
    clear q1 q2 q3 q4 q2' q3' hbO' hrow hlen hto hbO hd had
    gi_wp2
    refine ⟨by simp, .inl ⟨_, _, rfl, run_takeDeferred HDF.out, ?_⟩⟩
    obtain ⟨⟨s1, s2, s3, s4⟩, s5, s6, s7⟩ := HQ.out
    refine ⟨_, results_tmp rfl _ _ _, _, us, rfl, by rw [HL.out]; exact ownsRow_base_a HR.out (by have := HAD.out; omega), fun j p hj => ?_, by rw [HL.out]; exact s2, fun j h1 h2 => s4 j h1 (by have := HL.out; omega), .inr (by rw [HL.out]; exact ⟨s1, s3⟩), by rw [HL.out]; exact s5, s6⟩
    obtain ⟨r1, r2, Z, ds, e, r3, r4⟩ := HTO.out j p hj
    exact ⟨r1, r2, Z, ds, e, r3, r4.base (by have := HAD.out; omega)⟩
end Go.Proofs.YtcbebefdbdppdaaGreat

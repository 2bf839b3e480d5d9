/- frame.Parse.; What a wound and its drive keep over a call: bounds. No program in sight.; What a drive may show of each name but the temporary file's, now and behind any loss of power. No program in sight. -/
import Derived.Test.YtcbebefdbdppdaaGreatM21
import Derived.Test.YtcbebefdbdppdaaGreatM9
import Derived.Test.YtcbebefdbdppdaaGreatM8
import Derived.Test.YtcbebefdbdppdaaGreatM10
import Derived.Test.YtcbebefdbdppdaaGreatM11
namespace Go.Proofs.YtcbebefdbdppdaaGreat
open Go.RowKit Go.Maps
section
variable {P : Program} {w : World}
theorem wpList_build_at {ops : Array Oper} {rest : List Oper} {o : Oper} {a : Act} {Q : Exit → Act → World → Prop} (hgd : o.guard = none) (t : TypeId) (parts : Array (Nat × Operand)) (ho : o.op = .build t parts)
    (vs : Array (Nat × Value)) (hx : parts.map (fun (i, x) => (i, a.eval x)) = vs) (v : Value) (hrun : (Instr.build t vs).run P w = .ok v w) (h : wpList P ops Q rest (a.put o.dst v) w) : wpList P ops Q (o :: rest) a w :=
  wpList_plain hgd fun _ hK => by
    unfold Oper.wp execOp
    simp only [ho, hx, Sem.run_bind, Sem.run_pure, Result.andThen_ok, hrun]
    exact hK _ _ h
end
theorem build16 (v0 v1 v2 v3 v4 v5 v6 v7 v8 v9 v10 v11 v12 v13 v14 v15 : Value) (W : World) : (Instr.build 31 #[(0, .agg #[v0, v1, v2, v3, v4, v5, v6, v7, v8, v9, v10, v11, v12, v13, v14, v15])]).run Tryz.prog W = .ok (.agg #[v0, v1, v2, v3, v4, v5, v6, v7, v8, v9, v10, v11, v12, v13, v14, v15, .slice none 0 0]) W := by kernel_rfl
theorem arr16 {CK : Array Value} (h : CK.size = 16) : ∃ v0 v1 v2 v3 v4 v5 v6 v7 v8 v9 v10 v11 v12 v13 v14 v15, CK = #[v0, v1, v2, v3, v4, v5, v6, v7, v8, v9, v10, v11, v12, v13, v14, v15] := by
  obtain ⟨l⟩ := CK
  rw [List.size_toArray] at h
  match l, h with
  | [v0, v1, v2, v3, v4, v5, v6, v7, v8, v9, v10, v11, v12, v13, v14, v15], _ => exact ⟨v0, v1, v2, v3, v4, v5, v6, v7, v8, v9, v10, v11, v12, v13, v14, v15, rfl⟩
theorem build_shard {CK : Array Value} (h : CK.size = 16) (W : World) : (Instr.build 31 #[(0, .agg CK)]).run Tryz.prog W = .ok (.agg (CK.push (.slice none 0 0))) W := by
  obtain ⟨v0, v1, v2, v3, v4, v5, v6, v7, v8, v9, v10, v11, v12, v13, v14, v15, rfl⟩ := arr16 h
  exact build16 _ _ _ _ _ _ _ _ _ _ _ _ _ _ _ _ W
theorem shardInfo : (Tryz.prog.info? 31).map (·.size) = some 17 := by kernel_rfl
theorem load_sh {w : World} {g : Nat} {cs : Array Value} (hg : Blk w g 31 cs) (hl : cs.size = 17) : (loadVar 31 ⟨g, 0, none⟩).run Tryz.prog w = .ok (.agg cs) w :=
  run_loadVar_all 31 hg Tryz.underlying31 shardInfo hl
theorem store_sh {w : World} {R : Nat} {cur CK : Array Value} (h : Blk w R 31 cur) (hs : cur.size = 17) (hc : CK.size = 17) (h1 : ∀ v ∈ CK.toList, v.oneCell' = true) : ∃ w', (storeVar 31 ⟨R, 0, none⟩ (.agg CK)).run Tryz.prog w = .ok () w' ∧ Blk w' R 31 CK ∧ Touch (· = R) w w' ∧ w'.heap.size = w.heap.size :=
  run_storeVar_whole 31 h (by rw [hc]; exact shardInfo) (by rw [hs, hc]) h1
def zeroSh : Array Value := zeroHd.push (.slice none 0 0)
theorem push_one {CK : Array Value} (h : ∀ v ∈ CK.toList, v.oneCell' = true) {A : Option Addr} {n c : Nat} : ∀ v ∈ (CK.push (.slice A n c)).toList, v.oneCell' = true := by
  intro v hv
  rw [Array.toList_push] at hv
  rcases List.mem_append.1 hv with h1 | h1
  · exact h v h1
  · rw [List.mem_singleton] at h1; rw [h1]; rfl
theorem zeroHd_one : ∀ v ∈ zeroHd.toList, v.oneCell' = true := by
  have h1 : zeroHd.toList.all (fun v => v.oneCell') = true := by kernel_rfl
  exact fun v hv => List.all_eq_true.1 h1 v hv
theorem store_zsh {w : World} {R : Nat} {cur : Array Value} (h : Blk w R 31 cur) (hs : cur.size = 17) : ∃ w', (storeVar 31 ⟨R, 0, none⟩ (.agg zeroSh)).run Tryz.prog w = .ok () w' ∧ Blk w' R 31 zeroSh ∧ Touch (· = R) w w' ∧ w'.heap.size = w.heap.size :=
  store_sh h hs rfl (push_one zeroHd_one)
def parseH (bs : List UInt8) : Hd := if parseE bs = 0 then Hd.ofB bs else Hd.zero
def parseB (bs : List UInt8) : List (List UInt8) := if parseE bs = 0 then (cutOf bs).map (·.1) else []
set_option maxRecDepth 100000 in
set_option maxHeartbeats 8000000 in
theorem fparse_any (A : Option Addr) (n c b0 : Nat) (bs : List UInt8) (w : World) (ho : w.ownsRow b0 5 1 (.slice A n c) n (bs.map B8)) (hbig : n ≤ 1099511627776) : Calls Tryz.prog 69 #[.slice A n c] w fun e w' => ∃ sv, e = .returned (.tuple #[shV (parseH bs) sv, .int .i64 (parseE bs)]) ∧ BlkOwn w' w.heap.size sv (parseB bs) ∧ Below w.heap.size w w' := by
  have hl : bs.length = n := by have := ho.1; simpa using this
  obtain ⟨W0, hW0⟩ : ∃ W0, W0 = w.alloc (.cells zeroSh 31) := ⟨_, rfl⟩
  have HK0 : Hid (Blk W0 w.heap.size 31 zeroSh) := Lib.hid (by rw [hW0]; exact Blk.new _ _ _)
  have HB0 : Hid (Below w.heap.size w W0) := Lib.hid (by rw [hW0]; exact (Below.refl _ w).alloc (Nat.le_refl _) _)
  have HO := Lib.hid (fopen_any A n c b0 bs W0 (by rw [hW0]; exact ho.alloc _) hbig)
  have HOW := Lib.hid ho
  have HNB : Hid (bs.length = n ∧ n ≤ 1099511627776) := Lib.hid ⟨hl, hbig⟩
  have hcs := hdCells_size (openH_st bs)
  have hon := hd_one (Hd.openH bs)
  unfold hdV at HO
  obtain ⟨CK, hCK⟩ : ∃ CK, CK = hdCells (Hd.openH bs) := ⟨_, rfl⟩
  obtain ⟨q, hq⟩ : ∃ q, q = Hd.openS bs := ⟨_, rfl⟩
  obtain ⟨x, hx⟩ : ∃ x, x = Hd.openE bs := ⟨_, rfl⟩
  rw [← hCK] at HO hcs hon
  rw [← hq, ← hx] at HO
  have HEQ := Lib.hid hW0
  have HCS := Lib.hid hcs
  have HON := Lib.hid hon
  have HCK := Lib.hid hCK
  have HQ := Lib.hid hq
  have HX := Lib.hid hx
  have hmf : ∀ (fn : Fn) (first cap : Array Value) (w : World), (Instr.makeFunc fn first cap).run Tryz.prog w = .ok (.func fn first cap) w := fun _ _ _ _ => rfl
  obtain ⟨pe, hpe⟩ : ∃ pe, pe = parseE bs := ⟨_, rfl⟩
  have HPE := Lib.hid hpe
  clear ho hbig hCK hq hx hW0 hcs hon hl
  have HBAD : Hid (∀ (x : Int) (w2 : World), x ≠ 0 → parseE bs = x → Below w.heap.size w w2 → ∃ sv, (.returned (.tuple #[.agg zeroSh, .int .i64 x]) : Ending) = .returned (.tuple #[shV (parseH bs) sv, .int .i64 (parseE bs)]) ∧ BlkOwn w2 w.heap.size sv (parseB bs) ∧ Below w.heap.size w w2) := Lib.hid fun x w2 hx he hb => by
    refine ⟨.slice none 0 0, ?_, ?_, hb⟩
    · unfold parseH; rw [if_neg (by rw [he]; exact hx), he]; rfl
    · unfold parseB; rw [if_neg (by rw [he]; exact hx)]; exact BlkOwn.nil _ _
  clear hpe HPE
  go_enter Tryz.func69, Tryz.ntmps69
  go_wp2_with fail
  refine calls_world fun X0 hX0 => ?_
  obtain rfl : X0 = W0 := by rw [hX0, HEQ.out]; rfl
  refine HO.out.mono ?_
  rintro e w1 ⟨rfl, hb1⟩
  have HK1 := Lib.hid (HK0.out.below hb1 HK0.out.lt)
  have HB1 : Hid (Below w.heap.size w w1) := Lib.hid (HB0.out.trans (hb1.mono HB0.out.size))
  clear hb1 hX0
  obtain ⟨W1, hr1, hk1, ht1, hz1⟩ := store_hd (w := w1.alloc (.cells zeroHd 28)) (R := w1.heap.size) (Blk.new _ _ _) rfl HCS.out HON.out
  have hR1 : ¬ w.heap.size = w1.heap.size := Nat.ne_of_lt HK1.out.lt
  have HKR := Lib.hid ((HK1.out.alloc (.cells zeroHd 28)).touch ht1 hR1)
  have HBR : Hid (Below w.heap.size w W1) := Lib.hid ((HB1.out.alloc HB1.out.size _).trans (ht1.below (by rw [alloc_size]; exact Nat.le_succ_of_le HB1.out.size) (fun k hk => by rw [hk]; exact HB1.out.size)))
  have HK4 := Lib.hid hk1
  clear hk1 ht1 hz1 hR1
  by_cases hx0 : x = 0
  case' neg =>
    have hx2 : (x != 0) = true := by simp [hx0]
    obtain ⟨W2, hr2, hk2, ht2, _⟩ := store_zsh HKR.out rfl
    have HE1 : Hid (parseE bs = x) := Lib.hid (by unfold parseE; rw [if_pos (by rw [← HX.out]; exact hx0), HX.out])
    have HX0 := Lib.hid hx0
    clear hx0
    go_wp2_with (first
      | (refine wpList_store_at rfl 28 _ _ rfl ⟨w1.heap.size, 0, none⟩ rfl (.agg CK) rfl W1 hr1 ?_)
      | (refine wpList_store_at rfl 31 _ _ rfl ⟨w.heap.size, 0, none⟩ rfl (.agg zeroSh) rfl W2 hr2 ?_))
    exact bodyPost_ret (v := .tuple #[.agg zeroSh, .int .i64 x]) (results_cell2 Tryz.results69 _ ⟨w.heap.size, 0, none⟩ rfl (.agg zeroSh) _ _ (load_sh hk2 rfl)) rfl (HBAD.out x _ HX0.out HE1.out (HBR.out.trans (ht2.below HBR.out.size (fun k hk => Nat.le_of_eq hk.symm))))
  case' pos =>
    subst hx0
    have HOP : Hid (Hd.openE bs = 0) := Lib.hid HX.out.symm
    have hof := open_fixed HOP.out
    have HFT : Hid ((Hd.ofB bs).Fit) := Lib.hid (Hd.fit_of hof.2.2.1)
    have HST : Hid ((Hd.ofB bs).st.length = 8) := Lib.hid hof.2.2.2.2.2
    have HKL : Hid (40 + (Hd.ofB bs).key.length ≤ n) := Lib.hid (by rw [hof.2.2.2.2.1, ← HNB.out.1]; exact hof.2.2.2.1)
    have HCV : Hid (hdV (Hd.ofB bs) = .agg CK) := Lib.hid (by rw [HCK.out]; unfold Hd.openH; rw [if_pos HOP.out]; rfl)
    have HQS : Hid (q = (Hd.ofB bs).sum) := Lib.hid (by rw [HQ.out]; unfold Hd.openS; rw [if_pos HOP.out])
    have HLN := Lib.hid (flength_any (Hd.ofB bs) HST.out HFT.out W1)
    rw [HCV.out] at HLN
    obtain ⟨le, hle⟩ : ∃ le, le = (Hd.ofB bs).len := ⟨_, rfl⟩
    rw [← hle] at HLN
    have HLE := Lib.hid hle
    clear hof hle
    go_wp2_with (first
      | (refine wpList_store_at rfl 28 _ _ rfl ⟨w1.heap.size, 0, none⟩ rfl (.agg CK) rfl W1 hr1 ?_)
      | (refine wpList_load_at rfl 28 _ rfl ⟨w1.heap.size, 0, none⟩ rfl (.agg CK) (load_head HK4.out HCS.out) ?_))
    refine HLN.out.mono ?_
    rintro e w2 ⟨rfl, hb2⟩
    have HK5 := Lib.hid (HK4.out.below hb2 HK4.out.lt)
    have HKQ := Lib.hid (HKR.out.below hb2 HKR.out.lt)
    have HB2 : Hid (Below w.heap.size w w2) := Lib.hid (HBR.out.trans (hb2.mono HBR.out.size))
    clear hb2
    rcases Nat.lt_trichotomy n le with h1 | h1 | h1
    · have t1 : (n : Int) < (le : Int) := ltI h1
      obtain ⟨W2, hr2, hk2, ht2, _⟩ := store_zsh HKQ.out rfl
      have HE1 : Hid (parseE bs = 70) := Lib.hid (by unfold parseE; rw [if_neg (by rw [HOP.out]; decide), if_pos (by rw [HNB.out.1, ← HLE.out]; exact h1)])
      clear h1
      go_wp2_with (refine wpList_store_at rfl 31 _ _ rfl ⟨w.heap.size, 0, none⟩ rfl (.agg zeroSh) rfl W2 hr2 ?_)
      exact bodyPost_ret (v := .tuple #[.agg zeroSh, .int .i64 70]) (results_cell2 Tryz.results69 _ ⟨w.heap.size, 0, none⟩ rfl (.agg zeroSh) _ _ (load_sh hk2 rfl)) rfl (HBAD.out 70 _ (by decide) HE1.out (HB2.out.trans (ht2.below HB2.out.size (fun k hk => Nat.le_of_eq hk.symm))))
    · subst h1
      obtain ⟨g, rfl, hnc⟩ : ∃ g, A = some ⟨g, 0, none⟩ ∧ n ≤ c := by
        rcases HOW.out.2 with ⟨_, h0⟩ | ⟨g, cap, cur, hv, _, _, hnc, _⟩
        · exfalso
          have h2 := HKL.out
          rw [h0] at h2
          omega
        · injection hv with h1 h2 h3
          exact ⟨g, h1, by omega⟩
      have HNC := Lib.hid hnc
      have hps : (CK.push (.slice none 0 0)).size = 17 := by rw [Array.size_push, HCS.out]
      obtain ⟨W3, hr3, hk3, ht3, hz3⟩ := store_sh (w := w2.alloc (.cells zeroSh 31)) (R := w2.heap.size) (Blk.new _ _ _) rfl hps (push_one HON.out)
      have hR3 : ¬ w.heap.size = w2.heap.size := Nat.ne_of_lt HKQ.out.lt
      have hH3 : ¬ w1.heap.size = w2.heap.size := Nat.ne_of_lt HK5.out.lt
      have HK6 := Lib.hid ((HK5.out.alloc (.cells zeroSh 31)).touch ht3 hH3)
      have HKS := Lib.hid ((HKQ.out.alloc (.cells zeroSh 31)).touch ht3 hR3)
      have HBA : Hid (Below w2.heap.size w2 W3) := Lib.hid (((Below.refl _ w2).alloc (Nat.le_refl _) _).trans (ht3.below (by rw [alloc_size]; exact Nat.le_succ _) (fun k hk => Nat.le_of_eq hk.symm)))
      have HB3 : Hid (Below w.heap.size w W3) := Lib.hid (HB2.out.trans (HBA.out.mono HB2.out.size))
      have HK8 := Lib.hid hk3
      have hz : w2.heap.size < W3.heap.size := hk3.lt
      have HCU : Hid (cutB q 0 (bs.drop (40 + (Hd.ofB bs).key.length)) (Hd.ofB bs).lens = cutOf bs) := Lib.hid (by unfold cutOf; rw [HQS.out])
      clear hk3 ht3 hz3 hR3 hH3 hnc hps
      go_wp2_with (first
        | (refine wpList_load_at rfl 28 _ rfl ⟨w1.heap.size, 0, none⟩ rfl (.agg CK) (load_head HK5.out HCS.out) ?_)
        | (refine wpList_build_at rfl 31 _ rfl #[(0, .agg CK)] (by simp [Act.eval]; rfl) (.agg (CK.push (.slice none 0 0))) (build_shard HCS.out _) ?_)
        | (refine wpList_store_at rfl 31 _ _ rfl ⟨w2.heap.size, 0, none⟩ rfl (.agg (CK.push (.slice none 0 0))) rfl W3 hr3 ?_)
        | (refine wpList_load_at rfl 28 _ rfl ⟨w1.heap.size, 0, none⟩ rfl (.agg CK) (load_head (HK6.out.alloc _) HCS.out) ?_))
      refine calls_world fun X4 hX4 => ?_
      have HR4 : Hid (Blk X4 W3.heap.size 4 #[.bool true]) := Lib.hid (by rw [hX4]; exact Blk.new _ _ _)
      have HS4 : Hid (Blk X4 w2.heap.size 31 (CK.push (.slice none 0 0))) := Lib.hid (by rw [hX4]; exact HK8.out.alloc _)
      have HZ4 : Hid (Blk X4 w.heap.size 31 zeroSh) := Lib.hid (by rw [hX4]; exact HKS.out.alloc _)
      have HB4 : Hid (Below w.heap.size w X4) := Lib.hid (by rw [hX4]; exact HB3.out.alloc HB3.out.size _)
      have hz4 : w2.heap.size ≤ X4.heap.size := Nat.le_of_lt HS4.out.lt
      have hw2 : w.heap.size ≤ w2.heap.size := HB2.out.size
      clear hX4
      have HBK := Lib.hid (blocks_any (Hd.ofB bs) HST.out HFT.out q (by rw [HQS.out]; exact crcSum_lt _) g n c bs true W3.heap.size w2.heap.size w2.heap.size CK (.slice none 0 0) X4 HCS.out (((Reads.of_own HOW.out).below HB4.out).more hw2) HNC.out HNB.out.2 HKL.out HR4.out HS4.out (BlkOwn.nil _ _) hz4 (Nat.le_of_lt hz) (Nat.le_refl _))
      rw [HCV.out, HCU.out] at HBK
      refine HBK.out.mono ?_
      rintro e w5 ⟨rfl, sv, h1, h2, h3, h4⟩
      rw [Bool.true_and] at h1
      obtain ⟨al, hal⟩ : ∃ al, al = (cutOf bs).all (·.2) := ⟨_, rfl⟩
      rw [← hal] at h1
      have y5 : w5.cell? ⟨W3.heap.size, 0, none⟩ = some (.bool al) := h1.cell 0
      have HZ5 := Lib.hid (HZ4.out.below h4 HKQ.out.lt)
      have HB5 : Hid (Below w.heap.size w w5) := Lib.hid (HB4.out.trans (h4.mono hw2))
      obtain ⟨vs, hvs, _⟩ := h3.row
      obtain ⟨sa, sc, hsv, _⟩ := own_shape hvs
      have HS5 := Lib.hid h2
      have HO5 := Lib.hid (h3.base hw2)
      have HAL := Lib.hid hal
      clear h1 h2 h3 h4 HBK hvs hal
      have HPE : Hid (parseE bs = if al then 0 else 82) := Lib.hid (by
        unfold parseE
        rw [if_neg (by rw [HOP.out]; decide), if_neg (by rw [HNB.out.1, ← HLE.out]; exact Nat.lt_irrefl _), if_neg (by rw [HNB.out.1, ← HLE.out]; exact Nat.lt_irrefl _), HAL.out])
      cases al
      · obtain ⟨W6, hr6, hk6, ht6, _⟩ := store_zsh HZ5.out rfl
        go_wp2_with (refine wpList_store_at rfl 31 _ _ rfl ⟨w.heap.size, 0, none⟩ rfl (.agg zeroSh) rfl W6 hr6 ?_)
        exact bodyPost_ret (v := .tuple #[.agg zeroSh, .int .i64 82]) (results_cell2 Tryz.results69 _ ⟨w.heap.size, 0, none⟩ rfl (.agg zeroSh) _ _ (load_sh hk6 rfl)) rfl (HBAD.out 82 _ (by decide) (HPE.out.trans rfl) (HB5.out.trans (ht6.below HB5.out.size (fun k hk => Nat.le_of_eq hk.symm))))
      · have hps : (CK.push sv).size = 17 := by rw [Array.size_push, HCS.out]
        obtain ⟨W6, hr6, hk6, ht6, _⟩ := store_sh HZ5.out rfl hps (by rw [hsv]; exact push_one HON.out)
        have HBO6 : Hid (BlkOwn W6 w.heap.size sv ((cutOf bs).map (·.1))) := Lib.hid (HO5.out.keep fun k t cs hk ht => ht6.block k hk.lt fun e => by
          subst e
          have h1 := HZ5.out
          unfold Blk at hk h1
          rw [hk] at h1
          injection h1 with h1
          injection h1 with _ h1
          rcases ht with e | e <;> (rw [e] at h1; cases h1))
        have HV : Hid (shV (parseH bs) sv = .agg (CK.push sv)) := Lib.hid (by
          have h0 : parseE bs = 0 := by rw [HPE.out]; rfl
          unfold parseH
          rw [if_pos h0]
          have h := HCV.out
          unfold hdV at h
          injection h with h
          unfold shV
          rw [h])
        go_wp2_with (first
          | (refine wpList_load_at rfl 31 _ rfl ⟨w2.heap.size, 0, none⟩ rfl (.agg (CK.push sv)) (load_sh HS5.out hps) ?_)
          | (refine wpList_store_at rfl 31 _ _ rfl ⟨w.heap.size, 0, none⟩ rfl (.agg (CK.push sv)) rfl W6 hr6 ?_))
        refine bodyPost_ret (v := .tuple #[.agg (CK.push sv), .int .i64 0]) (results_cell2 Tryz.results69 _ ⟨w.heap.size, 0, none⟩ rfl (.agg (CK.push sv)) _ _ (load_sh hk6 hps)) rfl ⟨sv, ?_, ?_, HB5.out.trans (ht6.below HB5.out.size (fun k hk => Nat.le_of_eq hk.symm))⟩
        · rw [HV.out, HPE.out]; rfl
        · have h0 : parseE bs = 0 := by rw [HPE.out]; rfl
          unfold parseB
          rw [if_pos h0]
          exact HBO6.out
    · have t1 : ¬ (n : Int) < (le : Int) := fun h => Nat.lt_asymm h1 (Int.ofNat_lt.1 h)
      have t2 : (le : Int) < (n : Int) := ltI h1
      obtain ⟨W2, hr2, hk2, ht2, _⟩ := store_zsh HKQ.out rfl
      have HE1 : Hid (parseE bs = 72) := Lib.hid (by unfold parseE; rw [if_neg (by rw [HOP.out]; decide), if_neg (by rw [HNB.out.1, ← HLE.out]; exact Nat.lt_asymm h1), if_pos (by rw [HNB.out.1, ← HLE.out]; exact h1)])
      clear h1
      go_wp2_with (refine wpList_store_at rfl 31 _ _ rfl ⟨w.heap.size, 0, none⟩ rfl (.agg zeroSh) rfl W2 hr2 ?_)
      exact bodyPost_ret (v := .tuple #[.agg zeroSh, .int .i64 72]) (results_cell2 Tryz.results69 _ ⟨w.heap.size, 0, none⟩ rfl (.agg zeroSh) _ _ (load_sh hk2 rfl)) rfl (HBAD.out 72 _ (by decide) HE1.out (HB2.out.trans (ht2.below HB2.out.size (fun k hk => Nat.le_of_eq hk.symm))))
end Go.Proofs.YtcbebefdbdppdaaGreat
namespace Go.Proofs.YtcbebefdbdppdaaGreat
open Go.RowKit Go.Maps
structure Wnd.Okn (X : Wnd) (k : Nat) : Prop where
  calls : 0 ≤ X.calls ∧ X.calls ≤ k
  round : 0 ≤ X.round ∧ X.round ≤ k
  plan : X.plan.length ≤ 8796093021952
  fuse : ∀ f, X.fuse = some f → 0 ≤ f.round ∧ f.round ≤ 9223372036854775807
theorem Wnd.Okn.ok {X : Wnd} {k : Nat} (h : X.Okn k) (hk : k ≤ 1152921504606846976) : X.Ok :=
  ⟨⟨h.calls.1, by have := h.calls.2; omega⟩, ⟨h.round.1, by have := h.round.2; omega⟩, h.plan, h.fuse⟩
theorem Wnd.Okn.mono {X : Wnd} {k m : Nat} (h : X.Okn k) (hkm : k ≤ m) : X.Okn m :=
  ⟨⟨h.calls.1, by have := h.calls.2; omega⟩, ⟨h.round.1, by have := h.round.2; omega⟩, h.plan, h.fuse⟩
theorem Wnd.Okn.new : Wnd.new.Okn 0 := ⟨by decide, by decide, by decide, fun f hf => by cases hf⟩
theorem Wnd.Okn.cnt {X : Wnd} {k : Nat} (h : X.Okn k) (d : Bool) : ({ X.count with down := d } : Wnd).Okn (k + 1) :=
  ⟨⟨by have := h.calls.1; show (0 : Int) ≤ X.calls + 1; omega, by have := h.calls.2; show X.calls + 1 ≤ _; omega⟩, ⟨by have := h.round.1; show (0 : Int) ≤ X.round + 1; omega, by have := h.round.2; show X.round + 1 ≤ _; omega⟩, h.plan, h.fuse⟩
theorem struck_okn {X : Wnd} {k : Nat} (h : X.Okn k) (may : Bool) : (X.struck may).1.Okn (k + 1) := by
  unfold Wnd.struck
  split
  · exact h.mono (by omega)
  · split
    · exact h.mono (by omega)
    · split
      · exact h.cnt true
      · exact h.cnt X.count.down
theorem Wnd.Okn.away {X : Wnd} {k : Nat} (h : X.Okn k) (b : Bool) : ({ X with away := b } : Wnd).Okn k := ⟨h.calls, h.round, h.plan, h.fuse⟩
theorem Wnd.Okn.down {X : Wnd} {k : Nat} (h : X.Okn k) (b : Bool) : ({ X with down := b } : Wnd).Okn k := ⟨h.calls, h.round, h.plan, h.fuse⟩
theorem Wnd.Okn.arm {X : Wnd} {k : Nat} (h : X.Okn k) (l : List (Int × Int)) (hl : l.length ≤ 8796093021952) : (X.arm l).Okn k := ⟨⟨Int.le_refl _, by show (0 : Int) ≤ _; omega⟩, h.round, hl, h.fuse⟩
theorem Wnd.Okn.fused {X : Wnd} {k : Nat} (h : X.Okn k) (r c i : Int) (hr : r ≤ 9223372036854775807) : (X.setFuse r c i).Okn k := by
  refine ⟨h.calls, h.round, h.plan, fun f hf => ?_⟩
  simp only [Wnd.setFuse] at hf
  split at hf
  · injection hf with hf; subst hf; rename_i h0; exact ⟨h0, hr⟩
  · cases hf
theorem Wnd.Okn.rest {X : Wnd} {k : Nat} (h : X.Okn k) (off : Bool) : (X.rest off).Okn k := by
  refine ⟨h.calls, ⟨Int.le_refl _, by show (0 : Int) ≤ _; omega⟩, h.plan, fun f hf => ?_⟩
  unfold Wnd.rest at hf
  cases hx : X.fuse with
  | none => simp [hx] at hf
  | some g =>
    have := h.fuse g hx
    simp only [hx] at hf
    split at hf
    · cases hf
    · injection hf with hf; subst hf
      rename_i h0
      show 0 ≤ g.round - 1 ∧ g.round - 1 ≤ _
      omega
theorem Drv.chAll_room (S : Drv) (c : List Stp) : (S.chAll c).room = S.room := by
  induction c generalizing S with
  | nil => rfl
  | cons s r ih => exact (ih (S.chStp s)).trans rfl
theorem Drv.create_keepsRoom (S : Drv) (s : Nm) : (S.create s).1.room = S.room := by
  unfold Drv.create
  split
  · rfl
  · split
    · rfl
    · exact Drv.chAll_room _ _
theorem Drv.append_keepsRoom (S : Drv) (s : Nm) (d : List UInt8) : (S.append s d).1.room = S.room := by
  unfold Drv.append
  split
  · rfl
  · split
    · rfl
    · split
      · rfl
      · rfl
theorem Drv.sync_keepsRoom (S : Drv) (s : Nm) : (S.sync s).1.room = S.room := by
  unfold Drv.sync
  split
  · rfl
  · rfl
theorem Drv.rename_keepsRoom (S : Drv) (s t : Nm) : (S.rename s t).1.room = S.room := by
  unfold Drv.rename
  split
  · rfl
  · split
    · rfl
    · split
      · rfl
      · exact Drv.chAll_room _ _
theorem Drv.remove_keepsRoom (S : Drv) (s : Nm) : (S.remove s).1.room = S.room := by
  unfold Drv.remove
  split
  · rfl
  · exact Drv.chAll_room _ _
structure Kept (X : Wnd) (S : Drv) (k N r : Nat) : Prop where
  wnd : X.Okn k
  drv : S.Inv N
  room : S.room = r
theorem Kept.mono {X : Wnd} {S : Drv} {k N r k' N' : Nat} (h : Kept X S k N r) (hk : k ≤ k') (hN : N ≤ N') (hr : N' ≤ 1073741824) : Kept X S k' N' r :=
  ⟨h.wnd.mono hk, h.drv.mono hN (hr), h.room⟩
theorem wcall_kept {X : Wnd} {S : Drv} {k N r : Nat} (h : Kept X S k N r) (may : Bool) (f : Drv × Int) (hf : f.1.Inv (N + 1)) (hfr : f.1.room = S.room) (hr : (N + 1) ≤ 1073741824) :
    Kept (wcall X S may f).1 (wcall X S may f).2.1 (k + 1) (N + 1) r := by
  unfold wcall
  split
  · exact ⟨struck_okn h.wnd may, hf, hfr.trans h.room⟩
  · exact ⟨struck_okn h.wnd may, h.drv.mono (by omega) (hr), h.room⟩
theorem wappend_kept {X : Wnd} {S : Drv} {k N r : Nat} (h : Kept X S k N r) (s : Nm) (bs : List UInt8) (hr : (N + 1) ≤ 1073741824) :
    Kept (wappend X S s bs).1 (wappend X S s bs).2.1 (k + 1) (N + 1) r := by
  unfold wappend
  have hr' : (N + 1) ≤ 1073741824 := hr
  split
  · exact ⟨struck_okn h.wnd true, Drv.append_inv h.drv s bs hr', (Drv.append_keepsRoom S s bs).trans h.room⟩
  · split
    · exact ⟨struck_okn h.wnd true, Drv.append_inv h.drv s _ hr', (Drv.append_keepsRoom S s _).trans h.room⟩
    · exact ⟨struck_okn h.wnd true, h.drv.mono (by omega) hr', h.room⟩
def awStep (nm : Nm) (bs : List UInt8) (Z : Wnd × Drv) : Nat → Wnd × Drv × Int
  | 0 => wcall Z.1 Z.2 true (Z.2.create [116])
  | 1 => wappend Z.1 Z.2 [116] bs
  | 2 => wcall Z.1 Z.2 false (Z.2.sync [116])
  | 3 => wcall Z.1 Z.2 false (Z.2.rename [116] nm)
  | _ => wcall Z.1 Z.2 false (Z.2.syncDir, 0)
def awFrom (nm : Nm) (bs : List UInt8) : Nat → Nat → Wnd × Drv → Wnd × Drv × Int
  | 0, _, Z => (Z.1, Z.2, 0)
  | n + 1, k, Z => if (awStep nm bs Z k).2.2 = 0 then awFrom nm bs n (k + 1) ((awStep nm bs Z k).1, (awStep nm bs Z k).2.1) else awStep nm bs Z k
def awrite (X : Wnd) (S : Drv) (nm : Nm) (bs : List UInt8) : Wnd × Drv × Int := awFrom nm bs 5 0 (X, S)
theorem awStep_kept {Z : Wnd × Drv} {k N r : Nat} (h : Kept Z.1 Z.2 k N r) (nm : Nm) (bs : List UInt8) (i : Nat) (hr : (N + 1) ≤ 1073741824) :
    Kept (awStep nm bs Z i).1 (awStep nm bs Z i).2.1 (k + 1) (N + 1) r := by
  have hr' : (N + 1) ≤ 1073741824 := hr
  unfold awStep
  split
  · exact wcall_kept h _ _ (Drv.create_inv h.drv _ hr') (Drv.create_keepsRoom _ _) hr
  · exact wappend_kept h _ _ hr
  · exact wcall_kept h _ _ (Drv.sync_inv h.drv _ hr') (Drv.sync_keepsRoom _ _) hr
  · exact wcall_kept h _ _ (Drv.rename_inv h.drv _ _ hr') (Drv.rename_keepsRoom _ _ _) hr
  · exact wcall_kept h _ _ (Drv.syncDir_inv h.drv hr') rfl hr
theorem awFrom_kept (nm : Nm) (bs : List UInt8) : ∀ (n i : Nat) (Z : Wnd × Drv) (k N r : Nat), Kept Z.1 Z.2 k N r → (N + n) ≤ 1073741824 →
    Kept (awFrom nm bs n i Z).1 (awFrom nm bs n i Z).2.1 (k + n) (N + n) r
  | 0, _, _, _, _, _, h, _ => h
  | n + 1, i, Z, k, N, r, h, hr => by
    have h1 : (N + 1) ≤ 1073741824 := by omega
    have hs := awStep_kept h nm bs i h1
    unfold awFrom
    split
    · have := awFrom_kept nm bs n (i + 1) ((awStep nm bs Z i).1, (awStep nm bs Z i).2.1) (k + 1) (N + 1) r hs (by omega)
      rw [show k + (n + 1) = k + 1 + n by omega, show N + (n + 1) = N + 1 + n by omega]
      exact this
    · exact hs.mono (by omega) (by omega) hr
theorem awrite_kept {X : Wnd} {S : Drv} {k N r : Nat} (h : Kept X S k N r) (nm : Nm) (bs : List UInt8) (hr : (N + 5) ≤ 1073741824) :
    Kept (awrite X S nm bs).1 (awrite X S nm bs).2.1 (k + 5) (N + 5) r := awFrom_kept nm bs 5 0 (X, S) k N r h (by omega)
end Go.Proofs.YtcbebefdbdppdaaGreat
namespace Go.Proofs.YtcbebefdbdppdaaGreat
open Go.RowKit Go.Maps
theorem dget_stp {D : Dir} (h : Tidy D) (a : Nm) (o : Option Nat) (s : Nm) : dget (applyStp D (a, o)) s = if s = a then o else dget D s := by
  cases o with
  | none =>
    show dget (D.del (key a)) s = _
    by_cases e : s = a
    · subst e; rw [if_pos rfl, dget_del_same]
    · rw [if_neg e, dget_del_other e]
  | some i =>
    show dget (D.put (key a) (num i)) s = _
    by_cases e : s = a
    · subst e; rw [if_pos rfl, dget_put_same h.isMap]
    · rw [if_neg e, dget_put_other e]
theorem has_of_dget {D : Dir} {s : Nm} {i : Nat} (h : dget D s = some i) : has D (key s) = true := by
  cases hh : has D (key s) with
  | true => rfl
  | false =>
    have : D.atKey (key s) .nil = .nil := atKey_of_not_has hh .nil
    unfold dget at h
    rw [this] at h; cases h
theorem has_dnamesK {D : Dir} (hk : NmKeys D) (ht : Tidy D) {s : Nm} (h : has D (key s) = true) : s ∈ dnames D := by
  obtain ⟨es, rfl, _⟩ := ht
  rw [has_eq, List.any_eq_true] at h
  obtain ⟨p, hp, he⟩ := h
  rw [(dnames_perm _).mem_iff]
  exact List.mem_map.2 ⟨p, hp, by rw [sameKey_key he]; rfl⟩
theorem dget_crashDir {D : Dir} (hk : NmKeys D) (ht : Tidy D) (hf : Full D) : ∀ k, k ≤ (dnames D).length → ∀ s, (∀ j, j < k → (dnames D)[j]? = some s → dget (Drv.crashDir D k) s = some j) ∧ (s ∉ (dnames D).take k → dget (Drv.crashDir D k) s = none)
  | 0, _, s => ⟨fun j hj => by omega, fun _ => rfl⟩
  | k + 1, hl, s => by
    have ih := dget_crashDir hk ht hf k (by omega) s
    have hkl : k < (dnames D).length := by omega
    have hg : (dnames D)[k]? = some ((dnames D).getD k []) := by rw [List.getElem?_eq_getElem hkl]; simp [List.getD, hkl]
    have hT := (crashDir_facts hk ht hf k (by omega)).1
    have hnd := dnames_nodup hk ht
    have e : dget (Drv.crashDir D (k + 1)) s = if s = (dnames D).getD k [] then some k else dget (Drv.crashDir D k) s := dget_stp hT ((dnames D).getD k []) (some k) s
    refine ⟨fun j hj hs => ?_, fun hs => ?_⟩
    · rw [e]
      by_cases hjk : j = k
      · subst hjk
        rw [hg] at hs; injection hs with hs
        rw [if_pos hs.symm]
      · have hjl : j < (dnames D).length := by omega
        have hne : s ≠ (dnames D).getD k [] := by
          intro h
          rw [h, ← hg] at hs
          rw [List.getElem?_eq_getElem hjl, List.getElem?_eq_getElem hkl] at hs
          injection hs with hs
          exact (List.pairwise_iff_getElem.1 hnd) j k hjl hkl (by omega) hs
        rw [if_neg hne]
        exact ih.1 j (by omega) hs
    · rw [List.take_add_one, hg] at hs
      simp only [Option.toList_some, List.mem_append, List.mem_singleton, not_or] at hs
      rw [e, if_neg hs.2]
      exact ih.2 hs.1
namespace Drv
def cont (S : Drv) (o : Option Nat) : Option (List UInt8) := o.map fun i => (S.body i).data
def shows (S : Drv) (s : Nm) : Option (List UInt8) := S.cont (dget S.now s)
def leads (S : Drv) (s : Nm) (i : Nat) : Prop := dget S.now s = some i ∨ dget S.kept s = some i ∨ ∃ c ∈ S.pending, (s, some i) ∈ c
end Drv
def tmpN : Nm := [116]
structure Holds (S : Drv) (P : Nm → Option (List UInt8) → Prop) : Prop where
  now : ∀ s, s ≠ tmpN → P s (S.shows s)
  kept : ∀ s, s ≠ tmpN → P s (S.cont (dget S.kept s))
  pend : ∀ c ∈ S.pending, ∀ s o, (s, o) ∈ c → s ≠ tmpN → P s (S.cont o)
  whole : ∀ s i, s ≠ tmpN → S.leads s i → i < S.bodies.length ∧ (S.body i).safe = (S.body i).data.length
theorem Holds.mono {S : Drv} {P Q : Nm → Option (List UInt8) → Prop} (h : Holds S P) (hPQ : ∀ s x, s ≠ tmpN → P s x → Q s x) : Holds S Q :=
  ⟨fun s hs => hPQ s _ hs (h.now s hs), fun s hs => hPQ s _ hs (h.kept s hs), fun c hc s o ho hs => hPQ s _ hs (h.pend c hc s o ho hs), h.whole⟩
theorem Holds.bodies {S T : Drv} {P : Nm → Option (List UInt8) → Prop} (h : Holds S P) (hn : T.now = S.now) (hk : T.kept = S.kept) (hp : T.pending = S.pending) (hl : S.bodies.length ≤ T.bodies.length)
    (hb : ∀ s i, s ≠ tmpN → S.leads s i → (T.body i).data = (S.body i).data ∧ (T.body i).safe = (T.body i).data.length) : Holds T P := by
  have hleads : ∀ s i, T.leads s i ↔ S.leads s i := fun s i => by unfold Drv.leads; rw [hn, hk, hp]
  have hc : ∀ s o, s ≠ tmpN → (∀ i, o = some i → S.leads s i) → T.cont o = S.cont o := fun s o hs ho => by
    cases o with
    | none => rfl
    | some i => show some (T.body i).data = some (S.body i).data; rw [(hb s i hs (ho i rfl)).1]
  refine ⟨fun s hs => ?_, fun s hs => ?_, fun c hcm s o ho hs => ?_, fun s i hs hi => ?_⟩
  · unfold Drv.shows; rw [hn, hc s _ hs fun i e => .inl e]; exact h.now s hs
  · rw [hk, hc s _ hs fun i e => .inr (.inl e)]; exact h.kept s hs
  · rw [hp] at hcm
    rw [hc s o hs fun i e => .inr (.inr ⟨c, hcm, by rw [← e]; exact ho⟩)]; exact h.pend c hcm s o ho hs
  · rw [hleads] at hi
    exact ⟨Nat.lt_of_lt_of_le (h.whole s i hs hi).1 hl, (hb s i hs hi).2⟩
theorem Holds.bodies_shows {S T : Drv} (hn : T.now = S.now) (hb : ∀ s i, s ≠ tmpN → S.leads s i → (T.body i).data = (S.body i).data) : ∀ s, s ≠ tmpN → T.shows s = S.shows s := fun s hs => by
  unfold Drv.shows
  rw [hn]
  cases hg : dget S.now s with
  | none => rfl
  | some i => show some (T.body i).data = some (S.body i).data; rw [hb s i hs (.inl hg)]
theorem change_now (S : Drv) (c : List Stp) : (S.change c).now = applyC S.now c := Drv.chAll_now S c
theorem change_kept (S : Drv) (c : List Stp) : (S.change c).kept = S.kept := (Drv.chAll_bodies S c).2.2.1
theorem change_bodies (S : Drv) (c : List Stp) : (S.change c).bodies = S.bodies := (Drv.chAll_bodies S c).1
theorem change_pending (S : Drv) (c : List Stp) : (S.change c).pending = S.pending ++ [c] := by
  show (S.chAll c).pending ++ [c] = _
  rw [(Drv.chAll_bodies S c).2.2.2]
theorem change_body (S : Drv) (c : List Stp) (i : Nat) : (S.change c).body i = S.body i := by unfold Drv.body; rw [change_bodies]
theorem change_cont (S : Drv) (c : List Stp) (o : Option Nat) : (S.change c).cont o = S.cont o := by
  cases o with
  | none => rfl
  | some i => show some ((S.change c).body i).data = some (S.body i).data; rw [change_body]
theorem Holds.change {S : Drv} {P Q : Nm → Option (List UInt8) → Prop} (h : Holds S P) (ht : Tidy S.now) (c : List Stp) (hPQ : ∀ s x, s ≠ tmpN → P s x → Q s x)
    (hc : ∀ s o, (s, o) ∈ c → s ≠ tmpN → Q s (S.cont o) ∧ ∀ i, o = some i → i < S.bodies.length ∧ (S.body i).safe = (S.body i).data.length)
    (hsh : ∀ s, s ≠ tmpN → dget (applyC S.now c) s = dget S.now s ∨ ∃ o, (s, o) ∈ c ∧ dget (applyC S.now c) s = o) : Holds (S.change c) Q := by
  refine ⟨fun s hs => ?_, fun s hs => ?_, fun d hd s o ho hs => ?_, fun s i hs hi => ?_⟩
  · unfold Drv.shows
    rw [change_now, change_cont]
    rcases hsh s hs with e | ⟨o, ho, e⟩
    · rw [e]; exact hPQ s _ hs (h.now s hs)
    · rw [e]; exact (hc s o ho hs).1
  · rw [change_kept, change_cont]; exact hPQ s _ hs (h.kept s hs)
  · rw [change_pending] at hd
    rw [change_cont]
    rcases List.mem_append.1 hd with hd | hd
    · exact hPQ s _ hs (h.pend d hd s o ho hs)
    · rw [List.mem_singleton.1 hd] at ho; exact (hc s o ho hs).1
  · rw [change_bodies, change_body]
    unfold Drv.leads at hi
    rw [change_now, change_kept, change_pending] at hi
    rcases hi with e | e | ⟨d, hd, hm⟩
    · rcases hsh s hs with e' | ⟨o, ho, e'⟩
      · exact h.whole s i hs (.inl (e'.symm.trans e))
      · exact (hc s o ho hs).2 i (e'.symm.trans e)
    · exact h.whole s i hs (.inr (.inl e))
    · rcases List.mem_append.1 hd with hd | hd
      · exact h.whole s i hs (.inr (.inr ⟨d, hd, hm⟩))
      · rw [List.mem_singleton.1 hd] at hm; exact (hc s _ hm hs).2 i rfl
structure Fresh (S : Drv) (i : Nat) : Prop where
  here : dget S.now tmpN = some i
  no : ∀ s, s ≠ tmpN → ¬S.leads s i
  lt : i < S.bodies.length
theorem create_ok {S T : Drv} (h : S.create tmpN = (T, 0)) : T = ({ S with bodies := S.bodies ++ [⟨[], 0⟩] } : Drv).change [(tmpN, some S.bodies.length)] := by
  unfold Drv.create at h
  split at h
  · injection h with _ h; cases h
  · split at h
    · injection h with _ h; cases h
    · injection h with h _; exact h.symm
theorem create_no {S T : Drv} {x : Int} {s : Nm} (h : S.create s = (T, x)) (hx : x ≠ 0) : T = S := by
  unfold Drv.create at h
  split at h
  · injection h with h _; exact h.symm
  · split at h
    · injection h with h _; exact h.symm
    · injection h with _ h; exact absurd h.symm hx
theorem Holds.create {S T : Drv} {P : Nm → Option (List UInt8) → Prop} (h : Holds S P) (ht : Tidy S.now) (hc : S.create tmpN = (T, 0)) : Holds T P ∧ Fresh T S.bodies.length ∧ (T.body S.bodies.length).data = [] ∧ ∀ s, s ≠ tmpN → T.shows s = S.shows s := by
  rw [create_ok hc]
  generalize hS' : ({ S with bodies := S.bodies ++ [⟨[], 0⟩] } : Drv) = S'
  have e1 : S'.now = S.now := by rw [← hS']
  have e2 : S'.kept = S.kept := by rw [← hS']
  have e3 : S'.pending = S.pending := by rw [← hS']
  have e4 : S'.bodies = S.bodies ++ [⟨[], 0⟩] := by rw [← hS']
  have hb : ∀ i, i < S.bodies.length → S'.body i = S.body i := fun i hi => by unfold Drv.body; rw [e4, List.getD, List.getElem?_append_left hi]; rfl
  have hbn : S'.body S.bodies.length = ⟨[], 0⟩ := by unfold Drv.body; rw [e4, List.getD, List.getElem?_append_right (Nat.le_refl _)]; simp
  have h' : Holds S' P := h.bodies e1 e2 e3 (by rw [e4, List.length_append]; omega) fun s i hs hi => by
    have := h.whole s i hs hi
    rw [hb i this.1]; exact ⟨rfl, this.2⟩
  have hT : Tidy S'.now := by rw [e1]; exact ht
  have hap : ∀ s, dget (applyC S'.now [(tmpN, some S.bodies.length)]) s = if s = tmpN then some S.bodies.length else dget S'.now s := fun s => dget_stp hT tmpN (some S.bodies.length) s
  refine ⟨h'.change hT _ (fun _ _ _ hx => hx) (fun s o ho hs => ?_) (fun s hs => .inl ?_), ⟨?_, fun s hs hl => ?_, ?_⟩, ?_, ?_⟩
  · simp only [List.mem_singleton, Prod.mk.injEq] at ho; exact absurd ho.1 hs
  · rw [hap, if_neg hs]
  · rw [change_now, hap, if_pos rfl]
  · unfold Drv.leads at hl
    rw [change_now, hap, if_neg hs, change_kept, change_pending, e1, e2, e3] at hl
    rcases hl with e | e | ⟨d, hd, hm⟩
    · have := (h.whole s _ hs (.inl e)).1; omega
    · have := (h.whole s _ hs (.inr (.inl e))).1; omega
    · rcases List.mem_append.1 hd with hd | hd
      · have := (h.whole s _ hs (.inr (.inr ⟨d, hd, hm⟩))).1; omega
      · rw [List.mem_singleton.1 hd] at hm
        simp only [List.mem_singleton, Prod.mk.injEq] at hm; exact hs hm.1
  · rw [change_bodies, e4, List.length_append]; simp
  · rw [change_body, hbn]
  · intro s hs
    have e5 : S'.shows s = S.shows s := Holds.bodies_shows e1 (fun s i hs hi => by rw [hb i (h.whole s i hs hi).1]) s hs
    rw [← e5]
    unfold Drv.shows
    rw [change_now, hap, if_neg hs, change_cont]
theorem Holds.setBody {S : Drv} {P : Nm → Option (List UInt8) → Prop} (h : Holds S P) {i : Nat} (hf : Fresh S i) (B : Body) (u : Int) : Holds { S.setBody i B with used := u } P ∧ Fresh { S.setBody i B with used := u } i ∧ Drv.body { S.setBody i B with used := u } i = B ∧ ∀ s, s ≠ tmpN → Drv.shows { S.setBody i B with used := u } s = S.shows s := by
  have e0 : Drv.body { S.setBody i B with used := u } i = B := Drv.setBody_same S hf.lt B
  refine ⟨h.bodies rfl rfl rfl ?_ fun s j hs hj => ?_, ⟨hf.here, hf.no, ?_⟩, e0, Holds.bodies_shows rfl fun s j hs hj => ?_⟩
  · show _ ≤ (S.setBody i B).bodies.length
    rw [Drv.setBody_length]; exact Nat.le_refl _
  · have hne : j ≠ i := fun e => hf.no s hs (e ▸ hj)
    have e1 : Drv.body { S.setBody i B with used := u } j = S.body j := Drv.setBody_other S hne B
    rw [e1]; exact ⟨rfl, (h.whole s j hs hj).2⟩
  · show i < (S.setBody i B).bodies.length
    rw [Drv.setBody_length]; exact hf.lt
  · have hne : j ≠ i := fun e => hf.no s hs (e ▸ hj)
    have e1 : Drv.body { S.setBody i B with used := u } j = S.body j := Drv.setBody_other S hne B
    rw [e1]
theorem named_tmp : named tmpN = true := by decide
theorem find_fresh {S : Drv} {i : Nat} (hf : Fresh S i) : S.find tmpN = (some i, 0) := by
  unfold Drv.find
  rw [if_neg (by rw [named_tmp]; decide), hf.here]
theorem Holds.append {S T : Drv} {P : Nm → Option (List UInt8) → Prop} {x : Int} (h : Holds S P) {i : Nat} (hf : Fresh S i) (bs : List UInt8) (hc : S.append tmpN bs = (T, x)) :
    Holds T P ∧ Fresh T i ∧ (x = 0 → (T.body i).data = (S.body i).data ++ bs) ∧ ∀ s, s ≠ tmpN → T.shows s = S.shows s := by
  unfold Drv.append at hc
  rw [find_fresh hf] at hc
  simp only at hc
  split at hc
  · rename_i hb
    injection hc with hc _; subst hc
    exact ⟨h, hf, fun _ => by rw [hb, List.append_nil], fun _ _ => rfl⟩
  · split at hc
    · injection hc with hc hx; subst hc
      exact ⟨h, hf, fun e => (by rw [← hx] at e; cases e), fun _ _ => rfl⟩
    · injection hc with hc _; subst hc
      obtain ⟨a, b, c, d⟩ := h.setBody hf ⟨(S.body i).data ++ bs, (S.body i).safe⟩ (S.used + bs.length)
      exact ⟨a, b, fun _ => by rw [c], d⟩
theorem Holds.sync {S T : Drv} {P : Nm → Option (List UInt8) → Prop} {x : Int} (h : Holds S P) {i : Nat} (hf : Fresh S i) (hc : S.sync tmpN = (T, x)) :
    Holds T P ∧ Fresh T i ∧ x = 0 ∧ (T.body i).data = (S.body i).data ∧ (T.body i).safe = (T.body i).data.length ∧ ∀ s, s ≠ tmpN → T.shows s = S.shows s := by
  unfold Drv.sync at hc
  rw [find_fresh hf] at hc
  simp only at hc
  injection hc with hc hx
  obtain ⟨a, b, c, d⟩ := h.setBody hf ⟨(S.body i).data, S.len i⟩ S.used
  have e : ({ S.setBody i ⟨(S.body i).data, S.len i⟩ with used := S.used } : Drv) = S.setBody i ⟨(S.body i).data, S.len i⟩ := rfl
  rw [e, hc] at a b c d
  exact ⟨a, b, hx.symm, by rw [c], by rw [c]; rfl, d⟩
theorem Holds.rename {S T : Drv} {P : Nm → Option (List UInt8) → Prop} {x : Int} (h : Holds S P) (ht : Tidy S.now) {i : Nat} (hf : Fresh S i) (nm : Nm) (hn : named nm = true) (hnt : nm ≠ tmpN) (hw : (S.body i).safe = (S.body i).data.length) (hc : S.rename tmpN nm = (T, x)) :
    x = 0 ∧ Holds T (fun s y => P s y ∨ s = nm ∧ y = some (S.body i).data) ∧ T.shows nm = some (S.body i).data ∧ (∀ s, s ≠ tmpN → s ≠ nm → T.shows s = S.shows s) := by
  unfold Drv.rename at hc
  rw [if_neg (by rw [hn]; rintro ⟨_, h⟩; cases h), find_fresh hf] at hc
  simp only at hc
  rw [if_neg (Ne.symm hnt)] at hc
  injection hc with hc hx
  subst hc
  have t1 := (applyStp_tidy ht (tmpN, none)).1
  have hap : ∀ s, dget (applyC S.now [(tmpN, none), (nm, some i)]) s = if s = nm then some i else if s = tmpN then none else dget S.now s := fun s => by
    show dget (applyStp (applyStp S.now (tmpN, none)) (nm, some i)) s = _
    rw [dget_stp t1, dget_stp ht]
  refine ⟨hx.symm, h.change ht _ (fun _ _ _ hx => .inl hx) (fun s o ho hs => ?_) (fun s hs => ?_), ?_, fun s hs hsn => ?_⟩
  · simp only [List.mem_cons, Prod.mk.injEq, List.not_mem_nil, or_false] at ho
    rcases ho with ⟨e, _⟩ | ⟨rfl, rfl⟩
    · exact absurd e hs
    · exact ⟨.inr ⟨rfl, rfl⟩, fun j hj => by injection hj with hj; subst hj; exact ⟨hf.lt, hw⟩⟩
  · rw [hap]
    by_cases e : s = nm
    · subst e; rw [if_pos rfl]; exact .inr ⟨some i, by simp, rfl⟩
    · rw [if_neg e, if_neg hs]; exact .inl rfl
  · unfold Drv.shows
    rw [change_now, hap, if_pos rfl, change_cont]; rfl
  · unfold Drv.shows
    rw [change_now, hap, if_neg hsn, if_neg hs, change_cont]
theorem Holds.syncDir {S : Drv} {P : Nm → Option (List UInt8) → Prop} (h : Holds S P) : Holds S.syncDir (fun s y => P s y ∧ y = S.shows s) :=
  ⟨fun s hs => ⟨h.now s hs, rfl⟩, fun s hs => ⟨h.now s hs, rfl⟩, fun c hc => (by cases hc), fun s i hs hi => h.whole s i hs (by
    rcases hi with e | e | ⟨c, hc, _⟩
    · exact .inl e
    · exact .inl e
    · cases hc)⟩
theorem Holds.crashK {S : Drv} {P : Nm → Option (List UInt8) → Prop} {N : Nat} (h : Holds S P) (hI : S.Inv N) (dirs : List Bool) : ∀ k, k ≤ S.pending.length → ∀ s, s ≠ tmpN →
    P s (S.cont (dget (S.crashK dirs k) s)) ∧ ∀ i, dget (S.crashK dirs k) s = some i → S.leads s i
  | 0, _, s, hs => ⟨h.kept s hs, fun i e => .inr (.inl e)⟩
  | k + 1, hl, s, hs => by
    have ih := Holds.crashK h hI dirs k (by omega) s hs
    have hg : S.pending[k]? = some (S.pending.getD k []) := by rw [List.getElem?_eq_getElem (show k < S.pending.length by omega)]; simp [List.getD, show k < S.pending.length by omega]
    have hm : S.pending.getD k [] ∈ S.pending := List.mem_of_getElem? hg
    have hT := (crashK_facts hI dirs k (by omega)).2.1
    unfold Drv.crashK
    split
    · have key : ∀ (c : List Stp) (D : Dir), Tidy D → (∀ x ∈ c, x ∈ S.pending.getD k []) → (P s (S.cont (dget D s)) ∧ ∀ i, dget D s = some i → S.leads s i) → P s (S.cont (dget (applyC D c) s)) ∧ ∀ i, dget (applyC D c) s = some i → S.leads s i := by
        intro c
        induction c with
        | nil => intro D _ _ hd; exact hd
        | cons x c ihc =>
          intro D hD hx hd
          obtain ⟨a, o⟩ := x
          refine ihc (applyStp D (a, o)) (applyStp_tidy hD _).1 (fun y hy => hx y (List.mem_cons_of_mem _ hy)) ?_
          rw [dget_stp hD]
          by_cases e : s = a
          · subst e
            rw [if_pos rfl]
            have hmem := hx (s, o) List.mem_cons_self
            exact ⟨h.pend _ hm s o hmem hs, fun i ei => .inr (.inr ⟨_, hm, by rw [← ei]; exact hmem⟩)⟩
          · rw [if_neg e]; exact hd
      exact key _ _ hT (fun x hx => hx) ih
    · exact ih
theorem Holds.crash {S : Drv} {P : Nm → Option (List UInt8) → Prop} {N : Nat} (h : Holds S P) (hI : S.Inv N) (dirs : List Bool) (cuts : List Int) : Holds (S.crash dirs cuts) P := by
  have hK := h.crashK hI dirs S.pending.length (Nat.le_refl _)
  obtain ⟨f1, f2, f3, _⟩ := crashK_facts hI dirs S.pending.length (Nat.le_refl _)
  unfold Drv.crash
  generalize hD : S.crashK dirs S.pending.length = D at *
  generalize hM : (dnames D).length = M
  have hdg := dget_crashDir f3 f2 f1 M (by omega)
  have hbl : (S.crashAt D cuts M).bodies.length = M := by show ((List.range M).map _).length = M; simp
  have hbody : ∀ j, j < M → (S.crashAt D cuts M).body j = S.crashBody D cuts j := fun j hj => by
    unfold Drv.body Drv.crashAt
    simp only [List.getD, List.getElem?_map, List.getElem?_range hj, Option.map_some, Option.getD_some]
  have main : ∀ s, s ≠ tmpN → (S.crashAt D cuts M).cont (dget (Drv.crashDir D M) s) = S.cont (dget D s) ∧ ∀ i, dget (Drv.crashDir D M) s = some i → i < M ∧ ((S.crashAt D cuts M).body i).safe = ((S.crashAt D cuts M).body i).data.length := by
    intro s hs
    cases hg : dget D s with
    | none =>
      have hno : s ∉ dnames D := fun hm => by
        obtain ⟨_, i, hi⟩ := f1 s (mem_dnames f3 f2 hm)
        rw [hg] at hi; cases hi
      have e := (hdg s).2 (fun hm => hno (List.mem_of_mem_take hm))
      rw [e]
      exact ⟨rfl, fun i hi => by cases hi⟩
    | some i =>
      have hm := has_dnamesK f3 f2 (has_of_dget hg)
      obtain ⟨j, hj, e⟩ := List.getElem_of_mem hm
      have hjs : (dnames D)[j]? = some s := by rw [List.getElem?_eq_getElem hj, e]
      have hjM : j < M := by omega
      have e1 := (hdg s).1 j hjM hjs
      have hw := (h.whole s i hs ((hK s hs).2 i hg)).2
      have hcb : S.crashBody D cuts j = ⟨(S.body i).data, (S.body i).data.length⟩ := by
        have ea : S.at_ D ((dnames D).getD j []) = S.body i := by
          unfold Drv.at_
          have : (dnames D).getD j [] = s := by rw [List.getD, hjs]; rfl
          rw [this, hg]; rfl
        have ec : S.cutN D cuts j = (S.body i).data.length := by
          unfold Drv.cutN; rw [ea, hw]; omega
        unfold Drv.crashBody
        rw [ea, ec, List.take_length]
      rw [e1]
      refine ⟨?_, fun k hk => ?_⟩
      · show some ((S.crashAt D cuts M).body j).data = some (S.body i).data
        rw [hbody j hjM, hcb]
      · injection hk with hk; subst hk
        exact ⟨hjM, by rw [hbody j hjM, hcb]⟩
  refine ⟨fun s hs => ?_, fun s hs => ?_, fun c hc => (by cases hc), fun s i hs hi => ?_⟩
  · show P s ((S.crashAt D cuts M).cont (dget (Drv.crashDir D M) s))
    rw [(main s hs).1]; exact (hK s hs).1
  · show P s ((S.crashAt D cuts M).cont (dget (Drv.crashDir D M) s))
    rw [(main s hs).1]; exact (hK s hs).1
  · rw [hbl]
    rcases hi with e | e | ⟨c, hc, _⟩
    · exact (main s hs).2 i e
    · exact (main s hs).2 i e
    · cases hc
end Go.Proofs.YtcbebefdbdppdaaGreat

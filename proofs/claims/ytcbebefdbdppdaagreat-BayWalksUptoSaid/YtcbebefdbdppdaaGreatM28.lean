/- bay.Glance over a wound.; cairnref08.Same of two alike shards.; Lists of blocks that lie apart from a footprint. -/
import Derived.Test.YtcbebefdbdppdaaGreatM27
import Derived.Deep.QuietTactic
namespace Go.Proofs.YtcbebefdbdppdaaGreat
open Go.RowKit Go.Maps
theorem Hd.Fit.wf {h : Hd} (f : h.Fit) (hs : h.st.length = 8) : h.Wf := by
  have h1 := f.m; have h2 := f.k; have h3 := f.b; have h5 := f.size
  exact ⟨hs, ⟨by omega, by omega⟩, ⟨by omega, by omega⟩, ⟨by omega, by omega⟩, ⟨by omega, by omega⟩⟩
def GlanceAt (ds : List UInt8) (x : Int) (want : Hd) (v : Value) : Prop :=
  v = if x = 0 ∧ Hd.openE ds = 0 ∧ wantB (Hd.ofB ds) want = true ∧ (Hd.ofB ds).len = ds.length then .agg (seenS ((hdCells (Hd.ofB ds)).push (.slice none 0 0))) else .agg (seen0 (seenK x) (seenE x))
set_option maxRecDepth 100000 in
set_option maxHeartbeats 8000000 in
theorem bglance_any (q p : Nat) (X : Wnd) (S : Drv) (F : Nat → Prop) (want : Hd) (hst : want.st.length = 8) (h1 : 1 ≤ want.key.length) (h2 : want.key.length ≤ 255) (w : World) (hd : WD w q p X S F) (hF : ∀ k, F k → k < w.heap.size) (hX : X.Ok) (hS : S.Small) (Y : Wnd) (ds : List UInt8) (x : Int) (hy : wread X (S.read (objN want.key)) = (Y, ds, x)) (hds : ds.length ≤ 1099511627776) :
    Calls Tryz.prog 21 #[.iface 36 (.pointer (some ⟨q, 0, none⟩)), hdV want] w fun e w' => ∃ v, e = .returned v ∧ GlanceAt ds x want v ∧ WD w' q p Y S F ∧ Touch F w w' := by
  unfold hdV
  obtain ⟨CW, hCW⟩ : ∃ C, C = hdCells want := ⟨_, rfl⟩
  have HKY : Hid (CW[11]? = some (strV want.key)) := Lib.hid (by rw [hCW]; exact hd_key16 hst)
  have HCW : Hid (CW.size = 16) := Lib.hid (by rw [hCW]; exact hdCells_size hst)
  rw [← hCW]
  obtain ⟨W0, hW0⟩ : ∃ W0, W0 = (w.alloc (.cells CW 28)).alloc (.cells (seen0 0 0) 57) := ⟨_, rfl⟩
  have HB0 : Hid (Below w.heap.size w W0) := Lib.hid (by rw [hW0]; exact ((Below.refl _ w).alloc (Nat.le_refl _) _).alloc (by rw [alloc_size]; omega) _)
  have HK0 : Hid (Blk W0 w.heap.size 28 CW) := Lib.hid (by rw [hW0]; exact (Blk.new w _ _).alloc _)
  have HZ0 : Hid (Blk W0 (w.heap.size + 1) 57 (seen0 0 0)) := Lib.hid (by rw [hW0]; exact blk_last _ _ _ _ (by rw [alloc_size]))
  have HNB : Hid (¬F w.heap.size ∧ ¬F (w.heap.size + 1)) := Lib.hid ⟨fun hk => Nat.lt_irrefl _ (hF _ hk), fun hk => by have := hF _ hk; omega⟩
  have HRD := Lib.hid (bread_any q p X S F want.key h1 h2 W0 (hd.below HB0.out) (fun k hk => Nat.lt_of_lt_of_le (hF k hk) HB0.out.size) hX hS Y ds x hy)
  have HDS := Lib.hid hds
  have HCE := Lib.hid hCW
  have HST := Lib.hid hst
  obtain ⟨kv, hkv⟩ : ∃ kv, kv = strV want.key := ⟨_, rfl⟩
  rw [← hkv] at HKY HRD
  have y11 : W0.cell? ⟨w.heap.size, 11, none⟩ = some kv := (HK0.out.cell 11).trans HKY.out
  have HEQ := Lib.hid hW0
  have hk0 : CW[11]? = some kv := HKY.out
  clear hkv hCW h1 h2 hd hF hX hS hy hds hst hW0 y11
  go_enter Tryz.func21, Tryz.ntmps21
  go_wp2_with fail
  refine calls_world fun X0 hX0 => ?_
  obtain rfl : X0 = W0 := by rw [hX0, HEQ.out]; rfl
  clear hX0 hk0
  refine HRD.out.mono ?_
  rintro e w1 ⟨v, rfl, ho1, hd1, ht1⟩
  have HO1 := Lib.hid ho1
  have HD1 := Lib.hid hd1
  have HK1 := Lib.hid (HK0.out.touch ht1 HNB.out.1)
  have HZ1 := Lib.hid (HZ0.out.touch ht1 HNB.out.2)
  have HT1 : Hid (Touch F w w1) := Lib.hid ((Touch.of_below HB0.out).trans (ht1.mono fun k _ hk => .inl hk))
  have hz1 : w.heap.size + 1 < w1.heap.size := HZ1.out.lt
  clear ho1 hd1 ht1
  obtain ⟨W1, hr1, hk1, ht1, _⟩ := store_seen (w := w1.alloc (.cells (seen0 0 0) 57)) (R := w1.heap.size) (CK := seen0 (seenK x) (seenE x)) (Blk.new _ _ _) rfl rfl (seen0_one _ _)
  have HB1 : Hid (Below w1.heap.size w1 W1) := Lib.hid (((Below.refl _ w1).alloc (Nat.le_refl _) _).trans (ht1.below (by rw [alloc_size]; exact Nat.le_succ _) (fun k hk => Nat.le_of_eq hk.symm)))
  have HS6 := Lib.hid hk1
  have HEND : Hid (∀ w5, Below w1.heap.size w1 w5 → ∀ CK : Array Value, CK.size = 19 → (∀ v ∈ CK.toList, v.oneCell' = true) → ∃ w6, (storeVar 57 ⟨w.heap.size + 1, 0, none⟩ (.agg CK)).run Tryz.prog w5 = .ok () w6 ∧ Blk w6 (w.heap.size + 1) 57 CK ∧ WD w6 q p Y S F ∧ Touch F w w6 ∧ Touch (· = w.heap.size + 1) w5 w6) := Lib.hid fun w5 hb CK hc ho => by
    obtain ⟨w6, hr, hk, ht, _⟩ := store_seen (HZ1.out.below hb HZ1.out.lt) rfl hc ho
    refine ⟨w6, hr, hk, (HD1.out.below hb).keep ht (fun i hi e => HNB.out.2 (e ▸ hi)), (HT1.out.trans (Touch.of_below hb)).trans (ht.mono fun i _ hi => .inr (by rw [hi]; exact ⟨Nat.le_succ _, Nat.lt_of_lt_of_le hz1 hb.size⟩)), ht⟩
  clear hk1 ht1
  by_cases hx : x = 0
  case' neg =>
    have hk3 : (seenK x != 3) = true := by
      unfold seenK
      rw [if_neg hx]
      split <;> rfl
    have HLK : Hid (∀ w6 : World, GlanceAt ds x want (.agg (seen0 (seenK x) (seenE x)))) := Lib.hid fun w6 => by unfold GlanceAt; rw [if_neg (fun h => hx h.1)]
    have s6 : W1.cell? ⟨w1.heap.size, 0, none⟩ = some (.int .i64 (seenK x)) := HS6.out.cell 0
    obtain ⟨w6, hr6, hk6, hd6, ht6, _⟩ := HEND.out W1 HB1.out (seen0 (seenK x) (seenE x)) rfl (seen0_one _ _)
    obtain ⟨sk, hsk⟩ : ∃ k, k = seenK x := ⟨_, rfl⟩
    obtain ⟨se, hse⟩ : ∃ k, k = seenE x := ⟨_, rfl⟩
    rw [← hsk] at hk3 s6
    rw [← hsk, ← hse] at HLK hr1 HS6 hr6 hk6 ⊢
    clear hx hsk hse
    go_wp2_with (first
      | (refine wpList_store_at rfl 57 _ _ rfl ⟨w1.heap.size, 0, none⟩ rfl (.agg (seen0 sk se)) rfl W1 hr1 ?_)
      | (refine wpList_load_at rfl 57 _ rfl ⟨w1.heap.size, 0, none⟩ rfl (.agg (seen0 sk se)) (load_seen HS6.out rfl) ?_)
      | (refine wpList_store_at rfl 57 _ _ rfl ⟨w.heap.size + 1, 0, none⟩ rfl (.agg (seen0 sk se)) rfl w6 hr6 ?_))
    exact bodyPost_ret (v := .agg (seen0 sk se)) (results_cell1 Tryz.results21 _ ⟨w.heap.size + 1, 0, none⟩ rfl (.agg (seen0 sk se)) _ _ (load_seen hk6 rfl)) rfl ⟨_, rfl, HLK.out w6, hd6, ht6⟩
  case' pos =>
    subst hx
    have s6 : W1.cell? ⟨w1.heap.size, 0, none⟩ = some (.int .i64 3) := HS6.out.cell 0
    have HOW := Lib.hid (HO1.out rfl)
    obtain ⟨A, c, rfl, _⟩ := own_shape HOW.out
    have hz0 : w.heap.size ≤ w1.heap.size := Nat.le_trans (Nat.le_succ _) (Nat.le_of_lt hz1)
    have HPA := Lib.hid (fparseHead_any A ds.length c _ ds W1 (ownsRow_below HOW.out HB1.out) HDS.out)
    have HKW := Lib.hid (HK1.out.below HB1.out HK1.out.lt)
    have e3 : seen0 (seenK 0) (seenE 0) = seen0 3 0 := rfl
    rw [e3] at hr1 HS6 ⊢
    clear e3
    have hch := hdCells_size (openH_st ds)
    have hco := hd_one (Hd.openH ds)
    unfold hdV at HPA
    obtain ⟨CH, hCH⟩ : ∃ C, C = hdCells (Hd.openH ds) := ⟨_, rfl⟩
    rw [← hCH] at HPA hch hco
    have HCP := Lib.hid hch
    have HCO := Lib.hid hco
    have HCH := Lib.hid hCH
    clear hch hco hCH
    go_wp2_with (refine wpList_store_at rfl 57 _ _ rfl ⟨w1.heap.size, 0, none⟩ rfl (.agg (seen0 3 0)) rfl W1 hr1 ?_)
    refine HPA.out.mono ?_
    rintro e w2 ⟨rfl, hb2⟩
    obtain ⟨W3, hr3, hk3, ht3, _⟩ := store_hd (w := w2.alloc (.cells zeroHd 28)) (R := w2.heap.size) (CK := CH) (Blk.new _ _ _) rfl HCP.out HCO.out
    have HB3' : Hid (Below w2.heap.size w2 W3) := Lib.hid (((Below.refl _ w2).alloc (Nat.le_refl _) _).trans (ht3.below (by rw [alloc_size]; exact Nat.le_succ _) (fun k hk => Nat.le_of_eq hk.symm)))
    have hz2 : w1.heap.size ≤ w2.heap.size := Nat.le_trans HB1.out.size hb2.size
    have HB2 : Hid (Below w1.heap.size w1 w2) := Lib.hid (HB1.out.trans (hb2.mono HB1.out.size))
    have HB3 : Hid (Below w1.heap.size w1 W3) := Lib.hid (HB2.out.trans (HB3'.out.mono hz2))
    have HS8 := Lib.hid ((HS6.out.below hb2 HS6.out.lt).below HB3'.out (Nat.lt_of_lt_of_le HS6.out.lt hb2.size))
    have HK8 := Lib.hid hk3
    have HW8 := Lib.hid ((HKW.out.below hb2 HKW.out.lt).below HB3'.out (Nat.lt_of_lt_of_le HKW.out.lt hb2.size))
    clear hb2 hk3 ht3 s6
    have HSP : Hid (∀ w5, Below w1.heap.size w1 w5 → ¬(Hd.openE ds = 0 ∧ wantB (Hd.ofB ds) want = true ∧ (Hd.ofB ds).len = ds.length) → ∃ w6, (storeVar 57 ⟨w.heap.size + 1, 0, none⟩ (.agg (seen0 3 0))).run Tryz.prog w5 = .ok () w6 ∧ Blk w6 (w.heap.size + 1) 57 (seen0 3 0) ∧ GlanceAt ds 0 want (.agg (seen0 3 0)) ∧ WD w6 q p Y S F ∧ Touch F w w6) := Lib.hid fun w5 hb hn => by
      obtain ⟨w6, hr, hk, hd, ht, _⟩ := HEND.out w5 hb (seen0 3 0) rfl (seen0_one _ _)
      refine ⟨w6, hr, hk, ?_, hd, ht⟩
      unfold GlanceAt
      rw [if_neg (fun h => hn h.2)]
      rfl
    by_cases hpe : Hd.openE ds = 0
    case' neg =>
      obtain ⟨w6, hr6, hk6, hl6, hd6, ht6⟩ := HSP.out W3 HB3.out (fun h => hpe h.1)
      have hpe2 : (Hd.openE ds != 0) = true := by simp [hpe]
      obtain ⟨pe, hpe3⟩ : ∃ pe, pe = Hd.openE ds := ⟨_, rfl⟩
      rw [← hpe3] at hpe2 ⊢
      clear hpe hpe3
      go_wp2_with (first
        | (refine wpList_store_at rfl 28 _ _ rfl ⟨w2.heap.size, 0, none⟩ rfl (.agg CH) rfl W3 hr3 ?_)
        | (refine wpList_load_at rfl 57 _ rfl ⟨w1.heap.size, 0, none⟩ rfl (.agg (seen0 3 0)) (load_seen HS8.out rfl) ?_)
        | (refine wpList_store_at rfl 57 _ _ rfl ⟨w.heap.size + 1, 0, none⟩ rfl (.agg (seen0 3 0)) rfl w6 hr6 ?_))
      exact bodyPost_ret (v := .agg (seen0 3 0)) (results_cell1 Tryz.results21 _ ⟨w.heap.size + 1, 0, none⟩ rfl (.agg (seen0 3 0)) _ _ (load_seen hk6 rfl)) rfl ⟨_, rfl, hl6, hd6, ht6⟩
    case' pos =>
      have hof := open_fixed hpe
      have HPH : Hid (Hd.openH ds = Hd.ofB ds) := Lib.hid (if_pos hpe)
      have HFT : Hid ((Hd.ofB ds).Fit) := Lib.hid (Hd.fit_of hof.2.2.1)
      have HS8' : Hid ((Hd.ofB ds).st.length = 8) := Lib.hid hof.2.2.2.2.2
      have HWN := Lib.hid (wanted_any (Hd.ofB ds) want HS8'.out HST.out W3)
      unfold hdV at HWN
      rw [← HPH.out, ← HCH.out, ← HCE.out] at HWN
      have HLG := Lib.hid (fun W => fLength_ok (Hd.ofB ds) (HFT.out.wf HS8'.out) HFT.out W)
      unfold hdV at HLG
      rw [← HPH.out, ← HCH.out] at HLG
      obtain ⟨r, hr⟩ : ∃ r, r = wantB (Hd.openH ds) want := ⟨_, rfl⟩
      rw [← hr] at HWN
      have HR : Hid (r = wantB (Hd.ofB ds) want) := Lib.hid (by rw [hr, HPH.out])
      obtain ⟨le, hle⟩ : ∃ le, le = (Hd.openH ds).len := ⟨_, rfl⟩
      rw [← hle] at HLG
      have HLE : Hid (le = (Hd.ofB ds).len) := Lib.hid (by rw [hle, HPH.out])
      have HPE0 := Lib.hid hpe
      rw [hpe]
      clear hpe hr hle hof
      go_wp2_with (first
        | (refine wpList_store_at rfl 28 _ _ rfl ⟨w2.heap.size, 0, none⟩ rfl (.agg CH) rfl W3 hr3 ?_)
        | (refine wpList_load_if 28 _ rfl rfl ⟨w2.heap.size, 0, none⟩ rfl (.agg CH) (load_head HK8.out HCP.out) ?_)
        | (refine wpList_load_if 28 _ rfl rfl ⟨w.heap.size, 0, none⟩ rfl (.agg CW) (load_head HW8.out HCW.out) ?_))
      refine HWN.out.mono ?_
      rintro e w4 ⟨rfl, hb4⟩
      have hz3 : w1.heap.size ≤ W3.heap.size := HB3.out.size
      have HB4 : Hid (Below w1.heap.size w1 w4) := Lib.hid (HB3.out.trans (hb4.mono hz3))
      have HK9 := Lib.hid (HK8.out.below hb4 HK8.out.lt)
      have HS9 := Lib.hid (HS8.out.below hb4 HS8.out.lt)
      clear hb4 hr3
      by_cases hrr : r = true
      case' neg =>
        obtain rfl : r = false := by simpa using hrr
        obtain ⟨w6, hr6, hk6, hl6, hd6, ht6⟩ := HSP.out w4 HB4.out (fun h => by have h1 := HR.out; rw [h.2.1] at h1; cases h1)
        go_wp2_with (first
          | (refine wpList_load_at rfl 57 _ rfl ⟨w1.heap.size, 0, none⟩ rfl (.agg (seen0 3 0)) (load_seen HS9.out rfl) ?_)
          | (refine wpList_store_at rfl 57 _ _ rfl ⟨w.heap.size + 1, 0, none⟩ rfl (.agg (seen0 3 0)) rfl w6 hr6 ?_))
        exact bodyPost_ret (v := .agg (seen0 3 0)) (results_cell1 Tryz.results21 _ ⟨w.heap.size + 1, 0, none⟩ rfl (.agg (seen0 3 0)) _ _ (load_seen hk6 rfl)) rfl ⟨_, rfl, hl6, hd6, ht6⟩
      case' pos =>
        subst hrr
        go_wp2_with (refine wpList_load_at rfl 28 _ rfl ⟨w2.heap.size, 0, none⟩ rfl (.agg CH) (load_head HK9.out HCP.out) ?_)
        refine (HLG.out _).mono ?_
        rintro e w5 ⟨rfl, hb5⟩
        have HB5 : Hid (Below w1.heap.size w1 w5) := Lib.hid (HB4.out.trans (hb5.mono HB4.out.size))
        have HKA := Lib.hid (HK9.out.below hb5 HK9.out.lt)
        have HSA := Lib.hid (HS9.out.below hb5 HS9.out.lt)
        clear hb5
        by_cases hnl : le = ds.length
        case' neg =>
          have hn2 := bneI hnl
          obtain ⟨w6, hr6, hk6, hl6, hd6, ht6⟩ := HSP.out w5 HB5.out (fun h => hnl (HLE.out.trans h.2.2))
          clear hnl
          go_wp2_with (first
            | (refine wpList_load_at rfl 57 _ rfl ⟨w1.heap.size, 0, none⟩ rfl (.agg (seen0 3 0)) (load_seen HSA.out rfl) ?_)
            | (refine wpList_store_at rfl 57 _ _ rfl ⟨w.heap.size + 1, 0, none⟩ rfl (.agg (seen0 3 0)) rfl w6 hr6 ?_))
          exact bodyPost_ret (v := .agg (seen0 3 0)) (results_cell1 Tryz.results21 _ ⟨w.heap.size + 1, 0, none⟩ rfl (.agg (seen0 3 0)) _ _ (load_seen hk6 rfl)) rfl ⟨_, rfl, hl6, hd6, ht6⟩
        case' pos =>
          have hn2 := beqI hnl
          have HPS : Hid ((CH.push (.slice none 0 0)).size = 17) := Lib.hid (by rw [Array.size_push, HCP.out])
          obtain ⟨w6, hr6, hk6, hd6, ht6, _⟩ := HEND.out w5 HB5.out (seenS (CH.push (.slice none 0 0))) (seenS_size HPS.out) (seenS_one (push_one HCO.out))
          have HLK : Hid (GlanceAt ds 0 want (.agg (seenS (CH.push (.slice none 0 0))))) := Lib.hid (by
            unfold GlanceAt
            rw [if_pos ⟨rfl, HPE0.out, HR.out.symm, by rw [← HLE.out]; exact hnl⟩, HCH.out, HPH.out])
          clear hnl
          go_wp2_with (first
            | (refine wpList_load_at rfl 28 _ rfl ⟨w2.heap.size, 0, none⟩ rfl (.agg CH) (load_head HKA.out HCP.out) ?_)
            | (refine wpList_build_at rfl 31 _ rfl #[(0, .agg CH)] (by simp [Act.eval]; rfl) (.agg (CH.push (.slice none 0 0))) (build_shard HCP.out _) ?_)
            | (refine wpList_build_at rfl 57 _ rfl #[(0, .int .i64 2), (1, .agg (CH.push (.slice none 0 0)))] (by simp [Act.eval]; rfl) (.agg (seenS (CH.push (.slice none 0 0)))) (build_seen HPS.out _) ?_)
            | (refine wpList_store_at rfl 57 _ _ rfl ⟨w.heap.size + 1, 0, none⟩ rfl (.agg (seenS (CH.push (.slice none 0 0)))) rfl w6 hr6 ?_))
          exact bodyPost_ret (v := .agg (seenS (CH.push (.slice none 0 0)))) (results_cell1 Tryz.results21 _ ⟨w.heap.size + 1, 0, none⟩ rfl (.agg (seenS (CH.push (.slice none 0 0)))) _ _ (load_seen hk6 (seenS_size HPS.out))) rfl ⟨_, rfl, HLK.out, hd6, ht6⟩
end Go.Proofs.YtcbebefdbdppdaaGreat
namespace Go.Proofs.YtcbebefdbdppdaaGreat
open Go.RowKit Go.Maps
theorem drewN_twice (X : World) (j m : Nat) : (X.drewN j).drewN m = X.drewN (j + m) := by simp [World.drewN, Nat.add_assoc]
theorem hdEq_self (h : Hd) : hdEq h h = true := by unfold hdEq; simp
set_option maxRecDepth 100000 in
set_option maxHeartbeats 4000000 in
theorem rsame_yes (h : Hd) (hs : h.st.length = 8) (l : List (List UInt8)) (A1 A2 : Option Addr) (n c1 c2 : Nat) (w : World) (hn : n ≤ 4096) (hb1 : BlksAt w w.heap.size A1 n l) (hb2 : BlksAt w w.heap.size A2 n l) :
    Calls Tryz.prog 62 #[shV h (.slice A1 n c1), shV h (.slice A2 n c2)] w fun e w' => e = .returned (.bool true) ∧ Below w.heap.size w w' := by
  have hcs := hdCells_size hs
  have HNQ : Hid (∀ W : World, (binOp .neq 28 (hdV h) (hdV h)).run Tryz.prog W = .ok (.bool false) W) := Lib.hid fun W => by rw [hd_neql h h hs hs W, hdEq_self]; rfl
  unfold hdV at HNQ
  unfold shV
  obtain ⟨CH, hCH⟩ : ∃ C, C = hdCells h := ⟨_, rfl⟩
  rw [← hCH] at HNQ hcs ⊢
  have hgd : Tryz.prog.eqGuardType Tryz.prog.depth 28 = false := by kernel_rfl
  have hq := HNQ.out
  obtain ⟨W0, hW0⟩ : ∃ W0, W0 = (w.alloc (.cells (CH.push (.slice A1 n c1)) 31)).alloc (.cells (CH.push (.slice A2 n c2)) 31) := ⟨_, rfl⟩
  have HK1 : Hid (Blk W0 w.heap.size 31 (CH.push (.slice A1 n c1))) := Lib.hid (by rw [hW0]; exact (Blk.new w _ _).alloc _)
  have HK2 : Hid (Blk W0 (w.heap.size + 1) 31 (CH.push (.slice A2 n c2))) := Lib.hid (by rw [hW0]; exact blk_last _ _ _ _ (by rw [alloc_size]))
  have HB0 : Hid (Below w.heap.size w W0) := Lib.hid (by rw [hW0]; exact ((Below.refl _ w).alloc (Nat.le_refl _) _).alloc (by rw [alloc_size]; omega) _)
  have HR1 := Lib.hid (hb1.below HB0.out)
  have HR2 := Lib.hid (hb2.below HB0.out)
  have HCS := Lib.hid hcs
  have HN := Lib.hid hn
  have HEQ := Lib.hid hW0
  have z1 : W0.cell? ⟨w.heap.size, 16, none⟩ = some (.slice A1 n c1) := (HK1.out.cell 16).trans (push_last hcs _)
  have z2 : W0.cell? ⟨w.heap.size + 1, 16, none⟩ = some (.slice A2 n c2) := (HK2.out.cell 16).trans (push_last hcs _)
  have HZ : Hid (W0.cell? ⟨w.heap.size, 16, none⟩ = some (.slice A1 n c1) ∧ W0.cell? ⟨w.heap.size + 1, 16, none⟩ = some (.slice A2 n c2)) := Lib.hid ⟨z1, z2⟩
  have p1 := push_last hcs (.slice A1 n c1)
  have p2 := push_last hcs (.slice A2 n c2)
  clear hCH hb1 hb2 hn hW0 hcs
  go_enter Tryz.func62, Tryz.ntmps62
  go_upto_region 1 with fail
  refine wp_world fun X hX => ?_
  obtain rfl : X = W0 := by rw [hX, HEQ.out]
  clear hX
  go_wp2_with (first
    | (refine wpList_load_at rfl 28 _ rfl ⟨w.heap.size, 0, none⟩ rfl (.agg CH) (load_head_in HK1.out HCS.out) ?_)
    | (refine wpList_load_at rfl 28 _ rfl ⟨w.heap.size + 1, 0, none⟩ rfl (.agg CH) (load_head_in HK2.out HCS.out) ?_))
  clear z1 z2 p1 p2 hq hgd
  go_loopw [5] (fun s5 wr => ∃ k j : Nat, k ≤ n ∧ s5 = .int .i64 (k : Int) ∧ wr = X.drewN j) (fun s _ => n - (intOf s).toNat)
  case atStart => exact ⟨0, 0, Nat.zero_le _, rfl, rfl⟩
  case round =>
    obtain ⟨k, j, hk, rfl, hwr⟩ := hrel
    have hk0 : (0 : Int) ≤ (k : Int) := Int.natCast_nonneg _
    have z1 : wr.cell? ⟨w.heap.size, 16, none⟩ = some (.slice A1 n c1) := by rw [hwr]; exact HZ.out.1
    have z2 : wr.cell? ⟨w.heap.size + 1, 16, none⟩ = some (.slice A2 n c2) := by rw [hwr]; exact HZ.out.2
    have HWR := Lib.hid hwr
    by_cases hlt : k < n
    · have hlt' : (k : Int) < (n : Int) := ltI hlt
      have HK2' := Lib.hid (w64k hlt HN.out)
      obtain ⟨ad1, x, B1, d1, hA1, hx1, hc1, hr1⟩ := HR1.out.at_ hlt
      obtain ⟨ad2, x2, B2, d2, hA2, hx2, hc2, hr2⟩ := HR2.out.at_ hlt
      rw [hx1] at hx2
      injection hx2 with hx2
      subst hx2 hA1 hA2
      obtain ⟨s, hs'⟩ : ∃ s : ByteArray, s = ⟨x.toArray⟩ := ⟨_, rfl⟩
      have v1 : ∀ m, (convert 46 9 (.slice B1 x.length d1)).run Tryz.prog (wr.drewN m) = .ok (.string s) (wr.drewN m) := fun m => by rw [hs', hwr]; exact conv_any _ _ _ _ _ ((hr1.drewN j).drewN m)
      have v2 : ∀ m, (convert 46 9 (.slice B2 x.length d2)).run Tryz.prog (wr.drewN m) = .ok (.string s) (wr.drewN m) := fun m => by rw [hs', hwr]; exact conv_any _ _ _ _ _ ((hr2.drewN j).drewN m)
      have g1 : wr.cell? (ad1.add k) = some (.slice B1 x.length d1) := by rw [hwr]; exact hc1
      have g2 : wr.cell? (ad2.add k) = some (.slice B2 x.length d2) := by rw [hwr]; exact hc2
      clear hx1 hc1 hc2 hr1 hr2 hs' hk hwr
      go_wp2_with fail
      go_quiet (fail)
      go_wp2_with fail
      go_roundw
      case rel => exact ⟨k + 1, j + _, hlt, by rw [HK2'.out]; rfl, by rw [HWR.out]; exact drewN_twice _ _ _⟩
      case measure => rw [HK2'.out]; simp [intOf]; omega
    · obtain rfl : k = n := Nat.le_antisymm hk (Nat.le_of_not_lt hlt)
      clear hwr
      go_wp2_with fail
      go_ret
      exact ⟨rfl, by rw [HWR.out]; exact below_drewN HB0.out j⟩
end Go.Proofs.YtcbebefdbdppdaaGreat
namespace Go.Proofs.YtcbebefdbdppdaaGreat
open Go.RowKit Go.Maps
structure BlksOff (w : World) (B : Nat) (F : Nat → Prop) (A : Option Addr) (n : Nat) (l : List (List UInt8)) : Prop where
  len : l.length = n
  off : ∀ ad, A = some ad → ad.block < B ∧ ¬F ad.block
  rows : ∃ vs, Reads w B 1 A n vs ∧ ∀ (j : Nat) (x : List UInt8), l[j]? = some x → ∃ A' c', vs[j]? = some (Value.slice A' x.length c') ∧ Reads w B 1 A' x.length (x.map B8) ∧ ∀ ad, A' = some ad → ad.block < B ∧ ¬F ad.block
section
variable {w w' : World} {B B' n : Nat} {F G : Nat → Prop} {A : Option Addr} {l : List (List UInt8)}
theorem BlksOff.at_ (h : BlksOff w B F A n l) : BlksAt w B A n l := by
  obtain ⟨vs, h1, h2⟩ := h.rows
  exact ⟨h.len, vs, h1, fun j x hx => by obtain ⟨A', c', e, hr, _⟩ := h2 j x hx; exact ⟨A', c', e, hr⟩⟩
theorem BlksOff.touch (h : BlksOff w B F A n l) (ht : Touch G w w') (hB : B ≤ w.heap.size) (hG : ∀ k, k < B → G k → F k) : BlksOff w' B F A n l := by
  obtain ⟨vs, h1, h2⟩ := h.rows
  exact ⟨h.len, h.off, vs, h1.touch ht hB (fun ad e hk => (h.off ad e).2 (hG _ (h.off ad e).1 hk)), fun j x hx => by
    obtain ⟨A', c', e, hr, ho⟩ := h2 j x hx
    exact ⟨A', c', e, hr.touch ht hB (fun ad e hk => (ho ad e).2 (hG _ (ho ad e).1 hk)), ho⟩⟩
theorem BlksOff.more (h : BlksOff w B F A n l) (hB : B ≤ B') : BlksOff w B' F A n l := by
  obtain ⟨vs, h1, h2⟩ := h.rows
  exact ⟨h.len, fun ad e => ⟨Nat.lt_of_lt_of_le (h.off ad e).1 hB, (h.off ad e).2⟩, vs, h1.more hB, fun j x hx => by
    obtain ⟨A', c', e, hr, ho⟩ := h2 j x hx
    exact ⟨A', c', e, hr.more hB, fun ad e => ⟨Nat.lt_of_lt_of_le (ho ad e).1 hB, (ho ad e).2⟩⟩⟩
theorem BlksOff.mono (h : BlksOff w B F A n l) (hG : ∀ k, k < B → G k → F k) : BlksOff w B G A n l := by
  obtain ⟨vs, h1, h2⟩ := h.rows
  exact ⟨h.len, fun ad e => ⟨(h.off ad e).1, fun hk => (h.off ad e).2 (hG _ (h.off ad e).1 hk)⟩, vs, h1, fun j x hx => by
    obtain ⟨A', c', e, hr, ho⟩ := h2 j x hx
    exact ⟨A', c', e, hr, fun ad e => ⟨(ho ad e).1, fun hk => (ho ad e).2 (hG _ (ho ad e).1 hk)⟩⟩⟩
theorem BlksOff.below (h : BlksOff w B F A n l) (hb : Below B w w') : BlksOff w' B F A n l := by
  obtain ⟨vs, h1, h2⟩ := h.rows
  exact ⟨h.len, h.off, vs, h1.below hb, fun j x hx => by
    obtain ⟨A', c', e, hr, ho⟩ := h2 j x hx
    exact ⟨A', c', e, hr.below hb, ho⟩⟩
theorem BlkOwn.off {b c : Nat} (h : BlkOwn w b (.slice A n c) l) (hn : l.length = n) (hF : ∀ k, F k → k < b) : BlksOff w w.heap.size F A n l := by
  obtain ⟨vs, h1, h2⟩ := h.row
  rw [hn] at h1
  exact ⟨hn, fun ad e => ⟨(own_place h1 ad e).2, fun hk => by have := hF _ hk; have := (own_place h1 ad e).1; omega⟩, vs, Reads.of_own h1, fun j x hx => by
    obtain ⟨A', c', e, ho⟩ := h2 j x hx
    exact ⟨A', c', e, Reads.of_own ho, fun ad e => ⟨(own_place ho ad e).2, fun hk => by have := hF _ hk; have := (own_place ho ad e).1; omega⟩⟩⟩
end
end Go.Proofs.YtcbebefdbdppdaaGreat

/- cairnlaw14.awake.; Long division bit by bit, and the register of layer 6: the same rest.; A burst of at most 32 bits is seen by the sum. No program in sight. -/
import Derived.Test.YtcbebefdbdppdaaGreatM30
import Derived.Test.YtcbebefdbdppdaaGreatM31
import Derived.Test.YtcbebefdbdppdaaGreatM33
import Derived.Test.YtcbebefdbdppdaaGreatM23
import Derived.Test.YtcbebefdbdppdaaGreatM12
import Derived.Test.YtcbebefdbdppdaaGreatM15
namespace Go.Proofs.YtcbebefdbdppdaaGreat
open Go.RowKit Go.Maps

theorem num_any (e : Int) (w : World) : Calls Tryz.prog 13 #[.int .i64 e] w fun r w' => r = .returned (.int .i64 e) ∧ w = w' := by
  go_enter Tryz.func13, Tryz.ntmps13
  go_wp2
  go_ret
  exact ⟨rfl, rfl⟩
theorem plain_may (key : List UInt8) (h1 : 1 ≤ key.length) (h2 : key.length ≤ 255) : (plainH key).may = 0 :=
  Hd.may_of ⟨show (1 : Int) ≤ 1 ∧ (1 : Int) ≤ 2 by decide, show (2 : Int) + 1 ≤ 255 by decide, show (1 : Int) ≤ 4 ∧ (4 : Int) ≤ 65536 by decide, ⟨h1, h2⟩, show (0 : Int) ≤ 10 ∧ (10 : Int) ≤ 1048576 by decide, show ((10 : Int) + 2 * 4 - 1) / (2 * 4) ≤ 4096 by decide, show (0 : Int) ≤ 2 ∧ (2 : Int) < 2 + 1 by decide, show (1 : Int) ≤ 3 ∧ (3 : Int) ≤ 4294967295 by decide, show (1 : Int) ≤ 5 ∧ (5 : Int) ≤ 4294967295 by decide⟩
theorem look_none {w : World} {b : Nat} {want : Hd} {v : Value} (h : LookAt w b [] 110 want v) : v = .agg (seen0 1 0) := by
  unfold LookAt at h
  rwa [if_neg (fun h => absurd h.1 (by decide))] at h
theorem glance_none {want : Hd} {v : Value} (h : GlanceAt [] 110 want v) : v = .agg (seen0 1 0) := by
  unfold GlanceAt at h
  rwa [if_neg (fun h => absurd h.1 (by decide))] at h
set_option maxRecDepth 100000 in
set_option maxHeartbeats 16000000 in
theorem awake_any (w : World) : Calls Tryz.prog 9 #[] w fun e w' => e = .returned (.bool true) ∧ Below w.heap.size w w' := by
  have hkk : keyN (objN [97]) = some [97] := by decide
  have hon : named (objN [97]) = true := objN_named (by decide)
  have hmay := plain_may [97] (by decide) (by decide)
  have hlens : plainL.map List.length = (plainH [97]).lens := by decide
  have hwf : (plainH [97]).Wf := ⟨rfl, by unfold I64; decide, by unfold I64; decide, by unfold I64; decide, by unfold I64; decide⟩
  obtain ⟨H, hH⟩ : ∃ H, H = plainH [97] := ⟨_, rfl⟩
  have hHk : H.key = [97] := by rw [hH]; rfl
  have hHs : H.st.length = 8 := by rw [hH]; rfl
  obtain ⟨bs, hbs⟩ : ∃ bs, bs = shardBytes H plainL := ⟨_, rfl⟩
  have hbl : bs.length = 54 := by rw [hbs, shard_length H hHs plainL (by rw [hH]; exact hlens), hH]; decide
  have HST := Lib.hid (stored_new 1000 (by decide) (objN [97]) bs hon (objN_ne _) (fun e => by rw [e] at hbl; cases hbl) (by omega) Wnd.new.count 1 Calm.new.count (by have h9 := struck_okn Wnd.Okn.new false; rw [Calm.new.struck] at h9; exact h9))
  obtain ⟨Y, T, x, hy⟩ : ∃ Y T x, awrite Wnd.new.count (Drv.new 1000) (objN [97]) bs = (Y, T, x) := ⟨_, _, _, rfl⟩
  have HYT := Lib.hid hy
  rw [hy] at HST
  obtain ⟨hx0, hsd⟩ := HST.out
  obtain rfl : x = 0 := hx0
  have HSD : Hid (Stored Y T (objN [97]) bs 1000 6 5) := Lib.hid hsd
  rw [← hH] at hmay hlens hwf
  have HHH := Lib.hid (And.intro hH (And.intro hHk (And.intro hHs (And.intro hmay (And.intro hlens (And.intro hwf (And.intro hbs hbl)))))))
  have HKK := Lib.hid (And.intro hkk hon)
  clear hsd HST hy hH hHk hHs hbs hbl hmay hlens hwf hkk hon
  go_enter Tryz.func9, Tryz.ntmps9
  go_wp2_with fail
  refine (newb_any 1000 _ (by decide) (by decide)).mono ?_
  rintro e w1 ⟨p, rfl, hdr, hb1⟩
  have HB1 := Lib.hid hb1
  have HDR := Lib.hid hdr
  clear hb1 hdr
  go_wp2_with fail
  refine (wnewb_any w.heap.size p (Drv.new 1000) w1 HB1.out.size HDR.out).mono ?_
  rintro e w2 ⟨q, rfl, hwd, hb2⟩
  have HB2 : Hid (Below w.heap.size w w2) := Lib.hid (HB1.out.trans (hb2.mono HB1.out.size))
  obtain ⟨F, hF⟩ : ∃ F : Nat → Prop, F = fun k => w.heap.size ≤ k ∧ k < w2.heap.size := ⟨_, rfl⟩
  have HD2 : Hid (WD w2 q p Wnd.new (Drv.new 1000) F) := Lib.hid (by rw [hF]; exact hwd)
  have HF2 : Hid (∀ k, F k → w.heap.size ≤ k ∧ k < w2.heap.size) := Lib.hid (by rw [hF]; exact fun _ h => h)
  clear hwd hb2 hF
  go_wp2_with fail
  have hPL := plain_any [97] w2
  unfold strV at hPL
  refine hPL.mono ?_
  clear hPL
  rintro e w3 ⟨g, rfl, hbo, hb3⟩
  rw [← HHH.out.1]
  have HBO : Hid (BlksOff w3 w3.heap.size F (some ⟨g, 0, none⟩) 2 plainL) := Lib.hid (hbo.mono fun k _ hk => (HF2.out k hk).2)
  have HB3 : Hid (Below w2.heap.size w2 w3) := Lib.hid hb3
  clear hbo hb3
  unfold shV
  have hcs := hdCells_size HHH.out.2.2.1
  have hone := hd_one H
  obtain ⟨HC, hHC⟩ : ∃ HC, HC = hdCells H := ⟨_, rfl⟩
  rw [← hHC] at hcs hone ⊢
  have HCE := Lib.hid hHC
  have HCS := Lib.hid hcs
  have HSS : Hid ((HC.push (.slice (some ⟨g, 0, none⟩) 2 2)).size = 17 ∧ ∀ v ∈ (HC.push (.slice (some ⟨g, 0, none⟩) 2 2)).toList, v.oneCell' = true) := Lib.hid ⟨by rw [Array.size_push, hcs], push_one hone⟩
  clear hcs hone hHC
  obtain ⟨SC, hSC⟩ : ∃ SC, SC = HC.push (.slice (some ⟨g, 0, none⟩) 2 2) := ⟨_, rfl⟩
  rw [← hSC] at HSS ⊢
  have HSE := Lib.hid hSC
  clear hSC
  obtain ⟨W4, hr4, hk4, ht4, _⟩ := store_sh (w := w3.alloc (.cells zeroSh 31)) (R := w3.heap.size) (CK := SC) (Blk.new _ _ _) rfl HSS.out.1 HSS.out.2
  have HB4 : Hid (Below w3.heap.size w3 W4) := Lib.hid (((Below.refl _ w3).alloc (Nat.le_refl _) _).trans (ht4.below (by rw [alloc_size]; exact Nat.le_succ _) (fun k hk => Nat.le_of_eq hk.symm)))
  have HS4 := Lib.hid hk4
  have h34 : w3.heap.size + 1 ≤ W4.heap.size := hk4.lt
  have h23 : w2.heap.size ≤ w3.heap.size := HB3.out.size
  have h02 : w.heap.size ≤ w2.heap.size := HB2.out.size
  clear hk4 ht4
  have hL4 := load_head_in (bv := .slice (some ⟨g, 0, none⟩) 2 2) (by rw [← HSE.out]; exact HS4.out) HCS.out
  go_wp2_with (first
    | (refine wpList_store_at rfl 31 _ _ rfl ⟨w3.heap.size, 0, none⟩ rfl (.agg SC) rfl W4 hr4 ?_)
    | (refine wpList_load_at rfl 28 _ rfl ⟨w3.heap.size, 0, none⟩ rfl (.agg HC) hL4 ?_)
    | fail)
  clear hr4 hL4
  have HD4 : Hid (WD W4 q p Wnd.new (Drv.new 1000) F) := Lib.hid ((HD2.out.below HB3.out).below HB4.out)
  have hLK := blook_any q p Wnd.new (Drv.new 1000) F H HHH.out.2.2.1 (by rw [HHH.out.2.1]; decide) (by rw [HHH.out.2.1]; decide) W4 HD4.out (fun k hk => by have := HF2.out k hk; omega) (Wnd.Okn.new.ok (by decide)) ((kept_new 1000 (by decide)).drv.small (by decide)) Wnd.new.count [] 110
    (by rw [Calm.new.read, read_shows (by rw [HHH.out.2.1]; exact HKK.out.2)]; rfl) (by decide)
  unfold hdV at hLK
  rw [← HCE.out] at hLK
  refine hLK.mono ?_
  clear hLK
  rintro e w5 ⟨v, rfl, hla, hd5, ht5⟩
  obtain rfl := look_none hla
  have HD5 := Lib.hid hd5
  have HT5 := Lib.hid ht5
  clear hla hd5 ht5
  obtain ⟨W6, hr6, hk6, ht6, _⟩ := store_seen (w := w5.alloc (.cells (seen0 0 0) 57)) (R := w5.heap.size) (CK := seen0 1 0) (Blk.new _ _ _) rfl rfl (seen0_one _ _)
  have HB6 : Hid (Below w5.heap.size w5 W6) := Lib.hid (((Below.refl _ w5).alloc (Nat.le_refl _) _).trans (ht6.below (by rw [alloc_size]; exact Nat.le_succ _) (fun k hk => Nat.le_of_eq hk.symm)))
  have h45 : W4.heap.size ≤ w5.heap.size := HT5.out.size
  have h56 : w5.heap.size + 1 ≤ W6.heap.size := hk6.lt
  have HFn : Hid (∀ k, w2.heap.size ≤ k → ¬F k) := Lib.hid fun k h hk => by have := HF2.out k hk; omega
  have HS6 : Hid (Blk W6 w3.heap.size 31 SC) := Lib.hid ((HS4.out.touch HT5.out (HFn.out _ h23)).below HB6.out (by omega))
  have HK6 := Lib.hid hk6
  have y0 : W6.cell? ⟨w5.heap.size, 0, none⟩ = some (.int .i64 1) := HK6.out.cell 0
  have hL6 := load_sh HS6.out HSS.out.1
  clear hk6 ht6
  go_wp2_with (first
    | (refine wpList_store_at rfl 57 _ _ rfl ⟨w5.heap.size, 0, none⟩ rfl (.agg (seen0 1 0)) rfl W6 hr6 ?_)
    | (refine wpList_load_if 31 _ rfl (by rfl) ⟨w3.heap.size, 0, none⟩ rfl (.agg SC) hL6 ?_)
    | fail)
  have HB36 : Hid (BlksOff W6 w3.heap.size F (some ⟨g, 0, none⟩) 2 plainL) := Lib.hid (((HBO.out.below HB4.out).touch HT5.out (by omega) (fun _ _ h => h)).below (HB6.out.mono (by omega)))
  have hST := bstore_ok q p Wnd.new.count (Drv.new 1000) F H HHH.out.2.2.2.2.2.1 (Hd.fit_of HHH.out.2.2.2.1) plainL HHH.out.2.2.2.2.1 (some ⟨g, 0, none⟩) 2 2 W6 (HB36.out.more (by omega)).at_ (HD5.out.below HB6.out) (fun k hk => by have := HF2.out k hk; omega)
    1 0 1000 ⟨by have h9 := struck_okn Wnd.Okn.new false; rw [Calm.new.struck] at h9; exact h9, (kept_new 1000 (by decide)).drv, rfl⟩ (by decide) (by decide) Y T 0 (by rw [HHH.out.2.1, ← HHH.out.2.2.2.2.2.2.1]; exact HYT.out)
  unfold shV at hST
  rw [← HCE.out, ← HSE.out] at hST
  refine hST.mono ?_
  clear hST hr6 y0 hL6
  rintro e w7 ⟨rfl, hd7, ht7⟩
  obtain ⟨F7, hF7⟩ : ∃ F7 : Nat → Prop, F7 = grow F W6 w7 := ⟨_, rfl⟩
  rw [← hF7] at hd7
  have HD7 := Lib.hid hd7
  have HT7 := Lib.hid ht7
  have h67 : W6.heap.size ≤ w7.heap.size := ht7.size
  have HF7 : Hid (∀ k, F7 k → w.heap.size ≤ k ∧ k < w7.heap.size ∧ (k < w2.heap.size ∨ W6.heap.size ≤ k)) := Lib.hid fun k hk => by
    rw [hF7] at hk
    rcases hk with hk | hk
    · have := HF2.out k hk; omega
    · omega
  have HS7 : Hid (Blk w7 w3.heap.size 31 SC) := Lib.hid (HS6.out.touch ht7 (HFn.out _ h23))
  have HB37 : Hid (BlksOff w7 w3.heap.size F7 (some ⟨g, 0, none⟩) 2 plainL) := Lib.hid ((HB36.out.touch ht7 (by omega) (fun _ _ h => h)).mono (fun k hk h => by
    rw [hF7] at h
    rcases h with h | h
    · exact h
    · omega))
  clear hd7 ht7 hF7
  have hL7 := load_sh HS7.out HSS.out.1
  have hSH := showing_yes q p Y T F7 H HHH.out.2.2.1 HHH.out.2.2.2.1 plainL HHH.out.2.2.2.2.1 (some ⟨g, 0, none⟩) 2 2 w7 (HB37.out.more (by omega)) (by decide) HD7.out (fun k hk => (HF7.out k hk).2.1) 6 HSD.out.kept.wnd (by decide) (HSD.out.kept.drv.small (by decide)) HSD.out.calm
    (by rw [HHH.out.2.1, ← HHH.out.2.2.2.2.2.2.1]; exact HSD.out.read HKK.out.2)
  unfold shV at hSH
  rw [← HCE.out, ← HSE.out] at hSH
  have HSH := Lib.hid hSH
  clear hSH
  go_wp2_with (first
    | (go_at_call 13; refine (num_any _ _).mono ?_; rintro e w' ⟨rfl, rfl⟩)
    | (refine wpList_load_if 31 _ rfl (by rfl) ⟨w3.heap.size, 0, none⟩ rfl (.agg SC) hL7 ?_)
    | fail)
  refine HSH.out.mono ?_
  clear HSH hL7
  rintro e w8 ⟨rfl, hd8, ht8⟩
  have HSD8 := Lib.hid HSD.out.count.count
  have HD8 := Lib.hid hd8
  have HT8 := Lib.hid ht8
  have h78 : w7.heap.size ≤ w8.heap.size := ht8.size
  clear hd8 ht8
  have hKY := bkeys_any q p Y.count.count T F7 w8 (HSD.out.names (by decide)).1 (HSD.out.names (by decide)).2.1 (Nat.le_trans (HSD.out.names (by decide)).2.2 (by decide)) HD8.out (fun k hk => by have := HF7.out k hk; omega) (HSD8.out.kept.wnd.ok (by decide)) (HSD.out.kept.drv.small (by decide)) Y.count.count.count (dnames T.now) 0 (HSD8.out.calm.read _)
  have HKL : Hid (keysL (dnames T.now) 0 = [[97]]) := Lib.hid (by unfold keysL; rw [if_pos rfl]; exact HSD.out.keys HKK.out.1)
  rw [HKL.out] at hKY
  have HKY := Lib.hid hKY
  clear hKY
  go_wp2_with fail
  refine HKY.out.mono ?_
  clear HKY
  rintro e w9 ⟨v9, rfl, ho9, hd9, ht9⟩
  obtain ⟨A9, c9, rfl, _⟩ := own_shape ho9
  have HO9 := Lib.hid ho9
  have HD9 := Lib.hid hd9
  have HT9 := Lib.hid ht9
  have h89 : w8.heap.size ≤ w9.heap.size := ht9.size
  have HF9 : Hid (∀ k, F7 k → k < w3.heap.size ∨ W6.heap.size ≤ k) := Lib.hid fun k hk => by have := HF7.out k hk; omega
  have HN3 : Hid (¬F7 w3.heap.size) := Lib.hid fun h => by have := HF7.out _ h; omega
  have HS9 : Hid (Blk w9 w3.heap.size 31 SC) := Lib.hid ((HS7.out.touch HT8.out HN3.out).touch ht9 HN3.out)
  clear ho9 hd9 ht9
  have hL9 := load_head_in (bv := .slice (some ⟨g, 0, none⟩) 2 2) (by rw [← HSE.out]; exact HS9.out) HCS.out
  have HSD9 := Lib.hid HSD8.out.count
  have hWK := callsIn_wide.1 (walked_in 0 q p Y.count.count.count T F7 w9 H HHH.out.2.2.1 (-1) 9 9 (HSD.out.names (by decide)).1 (HSD.out.names (by decide)).2.1 (Nat.le_trans (HSD.out.names (by decide)).2.2 (by decide)) (fun nm => read_le HSD.out.kept.drv nm) HD9.out (fun k hk => by have := HF7.out k hk; omega) HSD9.out.kept.wnd (by have := (HSD.out.names (by decide)).2.2; omega) (HSD.out.kept.drv.small (by decide)) Y.count.count.count.count (dnames T.now) 0 (HSD9.out.calm.read _))
  rw [HKL.out] at hWK
  unfold hdV at hWK
  rw [← HCE.out] at hWK
  have HWK := Lib.hid hWK
  clear hWK
  go_wp2_with (first
    | (refine wpList_load_at rfl 28 _ rfl ⟨w3.heap.size, 0, none⟩ rfl (.agg HC) hL9 ?_)
    | fail)
  refine HWK.out.mono ?_
  clear HWK hL9
  rintro e w10 ⟨v, us, rfl, ho10, hto, hle, hns, hor, hd10, ht10⟩
  have hlen : us.length = 1 := by
    have h1 : us.length ≤ 1 := hle
    rcases hor with h | ⟨h, h2⟩
    · exact h
    · rcases h2 with ⟨h3, _⟩ | h3
      · omega
      · omega
  obtain ⟨⟨k, cs⟩, rfl⟩ : ∃ u, us = [u] := by
    match us, hlen with
    | [u], _ => exact ⟨u, rfl⟩
  obtain ⟨hk97, hcs19, Z, ds, e0, hrd, hla⟩ := hto 0 (k, cs) rfl
  obtain rfl : k = [97] := by injection hk97 with h; exact h.symm
  have hHeq : ({ H with key := [97] } : Hd) = H := by rw [← HHH.out.2.1]
  have hrd2 : (ds, e0) = (bs, (0 : Int)) := by
    have h9 : wread (struckN 0 Y.count.count.count.count) (T.read (objN [97])) = (Z, ds, e0) := hrd
    rw [show struckN 0 Y.count.count.count.count = Y.count.count.count.count from rfl, HSD9.out.count.calm.read, HSD.out.read HKK.out.2] at h9
    injection h9 with _ h9
    exact h9.symm
  injection hrd2 with e1 e2
  subst e1 e2
  rw [hHeq, HHH.out.2.2.2.2.2.2.1] at hla
  obtain ⟨sv, hcs, _⟩ := look_yes HHH.out.2.2.1 HHH.out.2.2.2.1 HHH.out.2.2.2.2.1 hla
  injection hcs with hcs
  have hcs' : cs = seenS ((hdCells H).push sv) := hcs
  have HCS0 : Hid (cs.toList[0]? = some (.int .i64 2)) := Lib.hid (by rw [hcs']; rfl)
  rw [List.length_singleton] at ho10
  obtain ⟨A10, c10, rfl, _⟩ := own_shape ho10
  have hro := Reads.of_own ho10
  obtain ⟨ad, hA10, _, hcl⟩ := hro.2 (by decide)
  subst hA10
  have had : ∃ g10, ad = ⟨g10, 0, none⟩ := by
    rcases ho10.2 with ⟨h, _⟩ | ⟨g', cap, cur, h, _⟩
    · cases h
    · injection h with h; injection h with h; exact ⟨g', h⟩
  obtain ⟨g10, rfl⟩ := had
  have z0 : w10.cell? ⟨g10, 0, none⟩ = some (.string { data := #[97] }) := hcl 0 _ rfl
  have z1 : w10.cell? ⟨g10, 1, none⟩ = some (.int .i64 2) := hcl 1 _ (by unfold flatP; rw [List.flatMap_cons, List.flatMap_nil, List.append_nil]; exact HCS0.out)
  have hr9 := Reads.of_own HO9.out
  obtain ⟨ad9, hA9, _, hcl9⟩ := hr9.2 (by decide)
  subst hA9
  have hp9 := own_place HO9.out ad9 rfl
  have had9 : ∃ g9, ad9 = ⟨g9, 0, none⟩ := by
    rcases HO9.out.2 with ⟨h, _⟩ | ⟨g', cap, cur, h, _⟩
    · cases h
    · injection h with h; injection h with h; exact ⟨g', h⟩
  obtain ⟨g9, rfl⟩ := had9
  have x0 : w10.cell? ⟨g9, 0, none⟩ = some (.string { data := #[97] }) := by
    rw [World.cell?_of_block (ht10.block g9 hp9.2 (fun h => by have := HF7.out _ h; have := hp9.1; simp at *; omega))]
    exact hcl9 0 _ rfl
  have HD10 : Hid (WD w10 q p Y.count.count.count.count.count T F7) := Lib.hid (by
    have h9 : WD w10 q p (Y.count.count.count.count.struck false).1 T F7 := hd10
    rw [HSD9.out.count.calm.struck] at h9
    exact h9)
  have HT10 := Lib.hid ht10
  have h910 : w9.heap.size ≤ w10.heap.size := ht10.size
  have HS10 : Hid (Blk w10 w3.heap.size 31 SC) := Lib.hid (HS9.out.touch ht10 HN3.out)
  have HSDA := Lib.hid HSD9.out.count.count
  clear hla hcs hcs' hcl hcl9 hr9 hp9 hro ho10 hto hle hns hor hd10 ht10 hlen hk97 hcs19 hrd hHeq
  have hGN := HSDA.out.gone HKK.out.2 (by decide)
  have HGN := Lib.hid hGN
  have hDR := bdrop_any q p Y.count.count.count.count.count T F7 [97] (by decide) (by decide) w10 HD10.out (fun k hk => by have := HF7.out k hk; omega) (HSDA.out.kept.wnd.ok (by decide)) (HSDA.out.kept.drv.small (by decide)) (hGN.2.2.2.2.1.ok (by decide)) (hGN.2.2.2.2.2.small (by decide))
  rw [hGN.1, hGN.2.1] at hDR
  clear hGN
  obtain ⟨T2, hT2⟩ : ∃ T2, T2 = (aremove Y.count.count.count.count.count T (objN [97])).2.1 := ⟨_, rfl⟩
  rw [← hT2] at hDR HGN
  clear hT2
  have HDR2 := Lib.hid hDR
  clear hDR
  unfold strV at HDR2
  go_wp2_with (first
    | (go_at_call 13; refine (num_any _ _).mono ?_; rintro e w' ⟨rfl, rfl⟩)
    | fail)
  refine HDR2.out.mono ?_
  clear HDR2 z0 z1 x0
  rintro e w11 ⟨rfl, hd11, ht11⟩
  have HD11 := Lib.hid hd11
  have HT11 := Lib.hid ht11
  have h1011 : w10.heap.size ≤ w11.heap.size := ht11.size
  have HS11 : Hid (Blk w11 w3.heap.size 31 SC) := Lib.hid (HS10.out.touch ht11 HN3.out)
  clear hd11 ht11
  have hL11 := load_head_in (bv := .slice (some ⟨g, 0, none⟩) 2 2) (by rw [← HSE.out]; exact HS11.out) HCS.out
  have hGL := bglance_any q p Y.count.count.count.count.count.count.count T2 (grow F7 w10 w11) H HHH.out.2.2.1 (by rw [HHH.out.2.1]; decide) (by rw [HHH.out.2.1]; decide) w11 HD11.out (fun k hk => by
    rcases hk with hk | hk
    · have := HF7.out k hk; omega
    · exact hk.2) (HGN.out.2.2.1.wnd.ok (by decide)) (HGN.out.2.2.1.drv.small (by decide)) Y.count.count.count.count.count.count.count.count [] 110 (by rw [HSDA.out.count.count.calm.read, HHH.out.2.1, HGN.out.2.2.2.1]) (by decide)
  unfold hdV at hGL
  rw [← HCE.out] at hGL
  have HGL := Lib.hid hGL
  clear hGL
  go_wp2_with (first
    | (refine wpList_load_at rfl 28 _ rfl ⟨w3.heap.size, 0, none⟩ rfl (.agg HC) hL11 ?_)
    | fail)
  refine HGL.out.mono ?_
  clear HGL hL11
  rintro e w12 ⟨v, rfl, hga, hd12, ht12⟩
  obtain rfl := glance_none hga
  have HT12 := Lib.hid ht12
  clear hga hd12 ht12
  obtain ⟨W13, hr13, hk13, ht13, _⟩ := store_seen (w := w12.alloc (.cells (seen0 0 0) 57)) (R := w12.heap.size) (CK := seen0 1 0) (Blk.new _ _ _) rfl rfl (seen0_one _ _)
  have HB13 : Hid (Below w12.heap.size w12 W13) := Lib.hid (((Below.refl _ w12).alloc (Nat.le_refl _) _).trans (ht13.below (by rw [alloc_size]; exact Nat.le_succ _) (fun k hk => Nat.le_of_eq hk.symm)))
  have y0 : W13.cell? ⟨w12.heap.size, 0, none⟩ = some (.int .i64 1) := hk13.cell 0
  have HK13 := Lib.hid hk13
  clear hk13 ht13
  go_wp2_with (first
    | (refine wpList_store_at rfl 57 _ _ rfl ⟨w12.heap.size, 0, none⟩ rfl (.agg (seen0 1 0)) rfl W13 hr13 ?_)
    | (go_at_call 13; refine (num_any _ _).mono ?_; rintro e w' ⟨rfl, rfl⟩)
    | fail)
  go_ret
  refine ⟨rfl, ?_⟩
  have l0 : ∀ {a b : World} {G : Nat → Prop}, Touch G a b → w.heap.size ≤ a.heap.size → (∀ k, G k → w.heap.size ≤ k) → Below w.heap.size a b := fun h1 h2 h3 => h1.below h2 h3
  have hFw : ∀ k, F k → w.heap.size ≤ k := fun k hk => (HF2.out k hk).1
  have hF7w : ∀ k, F7 k → w.heap.size ≤ k := fun k hk => (HF7.out k hk).1
  have hG12 : ∀ k, grow F7 w10 w11 k → w.heap.size ≤ k := fun k hk => by
    rcases hk with hk | hk
    · exact hF7w k hk
    · omega
  have b4 : Below w.heap.size w W4 := (HB2.out.trans (HB3.out.mono h02)).trans (HB4.out.mono (by omega))
  have b6 : Below w.heap.size w W6 := (b4.trans (l0 HT5.out (by omega) hFw)).trans (HB6.out.mono (by omega))
  have b9 : Below w.heap.size w w9 := ((b6.trans (l0 HT7.out (by omega) hFw)).trans (l0 HT8.out (by omega) hF7w)).trans (l0 HT9.out (by omega) hF7w)
  have b12 : Below w.heap.size w w12 := ((b9.trans (l0 HT10.out (by omega) hF7w)).trans (l0 HT11.out (by omega) hF7w)).trans (l0 HT12.out (by omega) hG12)
  exact b12.trans (HB13.out.mono (by have := b12.size; omega))
end Go.Proofs.YtcbebefdbdppdaaGreat
namespace Go.Proofs.YtcbebefdbdppdaaGreat

/-- The 33 terms' places behind a bit that stands: of cairnref06. -/
def crcTerms : List Nat := [0, 4, 5, 6, 7, 9, 10, 12, 13, 14, 18, 19, 21, 22, 23, 24, 26, 32]
/-- One step of the division, on bits by their places. -/
def divStep (i : Nat) (f : Nat → Bool) : Nat → Bool := fun j => if f i then (f j != (decide (i ≤ j) && crcTerms.contains (j - i))) else f j
def bitN (b : Bool) : Nat := if b then 1 else 0
/-- The register, bit by bit. -/
def serial (m : Nat → Bool) (r : Nat) : Nat → Nat
  | 0 => r
  | i + 1 => stp (serial m r i ^^^ bitN (m i))
def divUpto (f : Nat → Bool) : Nat → Nat → Bool
  | 0 => f
  | i + 1 => divStep i (divUpto f i)
theorem bitN_testBit (b : Bool) (j : Nat) : (bitN b).testBit j = (b && decide (j = 0)) := by
  cases b with
  | false => simp [bitN]
  | true =>
    rcases Nat.eq_zero_or_pos j with rfl | h
    · rfl
    · have e : (bitN true) = 2 ^ 1 - 1 := rfl
      rw [e, Nat.testBit_two_pow_sub_one]
      have : ¬ j < 1 := by omega
      have h2 : ¬ j = 0 := by omega
      simp [this, h2]
theorem crcM_bits (j : Nat) : crcM.testBit j = crcTerms.contains (j + 1) := by
  by_cases h : j < 32
  · have : ∀ j, j < 32 → crcM.testBit j = crcTerms.contains (j + 1) := by decide
    exact this j h
  · have h1 : crcM.testBit j = false := Nat.testBit_lt_two_pow (Nat.lt_of_lt_of_le (show crcM < 2 ^ 32 by decide) (Nat.pow_le_pow_right (by decide) (by omega)))
    rw [h1]
    symm
    simp [crcTerms]
    omega
theorem stp_testBit (r j : Nat) : (stp r).testBit j = (r.testBit (j + 1) != (r.testBit 0 && crcTerms.contains (j + 1))) := by
  unfold stp
  rw [Nat.testBit_xor, Nat.testBit_shiftRight, Nat.add_comm 1 j]
  cases h : r.testBit 0 with
  | true => simp only [if_true, crcM_bits, Bool.true_and]
  | false => simp
/-- How the bits stand when i of them are gone over. -/
theorem divUpto_eq (m : Nat → Bool) (r : Nat) (f : Nat → Bool) (hf : ∀ j, f j = (r.testBit j != m j)) (i j : Nat) : divUpto f i (i + j) = ((serial m r i).testBit j != m (i + j)) := by
  induction i generalizing j with
  | zero => rw [Nat.zero_add]; exact hf j
  | succ i ih =>
    show divStep i (divUpto f i) (i + 1 + j) = ((stp (serial m r i ^^^ bitN (m i))).testBit j != m (i + 1 + j))
    have h0 := ih 0
    rw [Nat.add_zero] at h0
    have h1 := ih (j + 1)
    rw [show i + (j + 1) = i + 1 + j by omega] at h1
    unfold divStep
    rw [h0, h1, stp_testBit, Nat.testBit_xor, Nat.testBit_xor, bitN_testBit, bitN_testBit, show i + 1 + j - i = j + 1 by omega]
    have e1 : decide (j + 1 = 0) = false := by simp
    have e2 : decide (i ≤ i + 1 + j) = true := by simp; omega
    rw [e1, e2]
    cases (serial m r i).testBit 0 <;> cases m i <;> cases (serial m r i).testBit (j + 1) <;> cases m (i + 1 + j) <;> cases crcTerms.contains (j + 1) <;> rfl

/-- A byte's bits, one by one, are its eight steps at once. -/
def byteBit (x k : Nat) : Bool := x.testBit k
theorem half_split (x : Nat) : x = bitN (x.testBit 0) ^^^ ((x >>> 1) <<< 1) := by
  apply Nat.eq_of_testBit_eq
  intro i
  rw [Nat.testBit_xor, bitN_testBit, Nat.testBit_shiftLeft, Nat.testBit_shiftRight]
  rcases Nat.eq_zero_or_pos i with rfl | h
  · simp
  · have e1 : decide (i = 0) = false := by simp; omega
    have e2 : decide (1 ≤ i) = true := by simp; omega
    rw [e1, e2, show 1 + (i - 1) = i by omega]
    cases x.testBit 0 <;> simp
theorem stp_take (r x : Nat) : stp (r ^^^ x) = stp (r ^^^ bitN (x.testBit 0)) ^^^ (x >>> 1) := by
  conv => lhs; rw [half_split x, ← Nat.xor_assoc, stp_xor, stp_shl]
def steps : Nat → Nat → Nat
  | 0, r => r
  | k + 1, r => steps k (stp r)
theorem steps_serial (k r x : Nat) (m : Nat → Bool) (hm : ∀ j, m j = x.testBit j) (hx : x < 2 ^ k) : steps k (r ^^^ x) = serial m r k := by
  have key : ∀ i, i ≤ k → steps k (r ^^^ x) = steps (k - i) (serial m r i ^^^ (x >>> i)) := by
    intro i
    induction i with
    | zero => intro _; simp [serial]
    | succ i ih =>
      intro hi
      rw [ih (by omega), show k - i = (k - (i + 1)) + 1 by omega]
      show steps _ (stp _) = _
      rw [stp_take]
      show _ = steps _ (stp (serial m r i ^^^ bitN (m i)) ^^^ x >>> (i + 1))
      rw [Nat.testBit_shiftRight, show i + 0 = i from rfl, ← hm i, ← Nat.shiftRight_add]
  rw [key k (Nat.le_refl _), Nat.sub_self]
  show serial m r k ^^^ (x >>> k) = _
  rw [Nat.shiftRight_eq_div_pow, Nat.div_eq_of_lt hx, Nat.xor_zero]
theorem upd_serial (r x : Nat) (hx : x < 256) (m : Nat → Bool) (hm : ∀ j, m j = x.testBit j) : upd r x = serial m r 8 := by
  rw [← steps_serial 8 r x m hm (by omega)]
  unfold upd
  rw [nib_eq, nib_eq]
  rfl
theorem serial_add (m : Nat → Bool) (r a b : Nat) : serial m r (a + b) = serial (fun j => m (a + j)) (serial m r a) b := by
  induction b with
  | zero => rfl
  | succ b ih => show stp (serial m r (a + b) ^^^ bitN (m (a + b))) = _; rw [ih]; rfl
theorem serial_congr {m m' : Nat → Bool} {r k : Nat} (h : ∀ j, j < k → m j = m' j) : serial m r k = serial m' r k := by
  induction k with
  | zero => rfl
  | succ k ih => show stp (serial m r k ^^^ bitN (m k)) = stp (serial m' r k ^^^ bitN (m' k)); rw [ih fun j hj => h j (by omega), h k (by omega)]
/-- The bits of some bytes, in order; none behind them. -/
def msgBit (l : List UInt8) (j : Nat) : Bool := match l[j / 8]? with | some x => x.toNat.testBit (j % 8) | none => false
theorem over_serial (r : Nat) (l : List UInt8) : over r l = serial (msgBit l) r (8 * l.length) := by
  induction l generalizing r with
  | nil => rfl
  | cons x l ih =>
    rw [over_cons, ih, List.length_cons, show 8 * (l.length + 1) = 8 + 8 * l.length by omega, serial_add, upd_serial r x.toNat x.toNat_lt (fun j => x.toNat.testBit j) fun _ => rfl]
    have e1 : serial (fun j => x.toNat.testBit j) r 8 = serial (msgBit (x :: l)) r 8 := serial_congr fun j hj => by
      unfold msgBit
      rw [Nat.div_eq_of_lt hj, Nat.mod_eq_of_lt hj]
      rfl
    rw [e1]
    refine serial_congr fun j _ => ?_
    unfold msgBit
    rw [show (8 + j) / 8 = j / 8 + 1 by omega, show (8 + j) % 8 = j % 8 by omega, List.getElem?_cons_succ]
/-- What the division leaves: the register behind all bytes. -/
theorem div_rest (r : Nat) (l : List UInt8) (f : Nat → Bool) (hf : ∀ j, f j = (r.testBit j != msgBit l j)) (j : Nat) : divUpto f (8 * l.length) (8 * l.length + j) = (over r l).testBit j := by
  rw [divUpto_eq (msgBit l) r f hf, over_serial]
  have : msgBit l (8 * l.length + j) = false := by
    unfold msgBit
    rw [List.getElem?_eq_none (by omega)]
  rw [this]; simp
end Go.Proofs.YtcbebefdbdppdaaGreat
namespace Go.Proofs.YtcbebefdbdppdaaGreat

theorem add_shl8 (a x : Nat) (ha : a < 256) : a + 256 * x = a ^^^ x <<< 8 := by
  apply Nat.eq_of_testBit_eq
  intro i
  have h := Nat.testBit_two_pow_mul_add (i := 8) x (show a < 2 ^ 8 from ha) i
  rw [Nat.add_comm, show (256 : Nat) = 2 ^ 8 from rfl, h, Nat.testBit_xor, Nat.testBit_shiftLeft]
  by_cases h8 : i < 8
  · rw [if_pos h8]
    have : ¬ 8 ≤ i := by omega
    simp [this]
  · rw [if_neg h8]
    have e : a.testBit i = false := Nat.testBit_lt_two_pow (Nat.lt_of_lt_of_le (show a < 2 ^ 8 from ha) (Nat.pow_le_pow_right (by decide) (by omega)))
    have : 8 ≤ i := by omega
    simp [this, e]
theorem unle_four (a b c d : UInt8) : unle [a, b, c, d] = a.toNat ^^^ (b.toNat ^^^ (c.toNat ^^^ d.toNat <<< 8) <<< 8) <<< 8 := by
  show a.toNat + 256 * (b.toNat + 256 * (c.toNat + 256 * (d.toNat + 256 * 0))) = _
  rw [Nat.mul_zero, Nat.add_zero, add_shl8 c.toNat _ c.toNat_lt, add_shl8 b.toNat _ b.toNat_lt, add_shl8 a.toNat _ a.toNat_lt]
def bitsOf (m : Nat → Bool) : Nat → Nat
  | 0 => 0
  | q + 1 => bitN (m 0) + 2 * bitsOf (fun j => m (j + 1)) q
theorem bitsOf_lt (m : Nat → Bool) (q : Nat) : bitsOf m q < 2 ^ q := by
  induction q generalizing m with
  | zero => show 0 < 1; decide
  | succ q ih =>
    have := ih fun j => m (j + 1)
    show bitN (m 0) + 2 * bitsOf (fun j => m (j + 1)) q < 2 ^ (q + 1)
    have hb : bitN (m 0) ≤ 1 := by unfold bitN; split <;> omega
    rw [Nat.pow_succ]; omega
theorem bitsOf_test (m : Nat → Bool) (q j : Nat) : (bitsOf m q).testBit j = (decide (j < q) && m j) := by
  induction q generalizing m j with
  | zero => simp [bitsOf]
  | succ q ih =>
    show (bitN (m 0) + 2 * bitsOf (fun j => m (j + 1)) q).testBit j = _
    cases j with
    | zero =>
      rw [Nat.testBit_zero]
      unfold bitN
      cases m 0 <;> simp <;> omega
    | succ j =>
      have hb : (bitN (m 0) + 2 * bitsOf (fun j => m (j + 1)) q) / 2 = bitsOf (fun j => m (j + 1)) q := by
        have : bitN (m 0) ≤ 1 := by unfold bitN; split <;> omega
        omega
      rw [Nat.testBit_succ, hb, ih]
      simp
theorem serial_zero (m : Nat → Bool) (k : Nat) (h : ∀ j, j < k → m j = false) : serial m 0 k = 0 := by
  induction k with
  | zero => rfl
  | succ k ih =>
    show stp (serial m 0 k ^^^ bitN (m k)) = 0
    rw [ih fun j hj => h j (by omega), h k (by omega)]
    rfl
theorem serial_rest (m : Nat → Bool) (r k : Nat) (hr : r < 4294967296) (h0 : r ≠ 0) (h : ∀ j, j < k → m j = false) : serial m r k ≠ 0 ∧ serial m r k < 4294967296 := by
  induction k with
  | zero => exact ⟨h0, hr⟩
  | succ k ih =>
    obtain ⟨h1, h2⟩ := ih fun j hj => h j (by omega)
    show stp (serial m r k ^^^ bitN (m k)) ≠ 0 ∧ stp (serial m r k ^^^ bitN (m k)) < _
    rw [h k (by omega), show bitN false = 0 from rfl, Nat.xor_zero]
    exact ⟨fun e => h1 (stp_eq_zero h2 e), stp_lt h2⟩
theorem steps_ne (k r : Nat) (hr : r < 4294967296) (h0 : r ≠ 0) : steps k r ≠ 0 ∧ steps k r < 4294967296 := by
  induction k generalizing r with
  | zero => exact ⟨h0, hr⟩
  | succ k ih => exact ih (stp r) (stp_lt hr) fun e => h0 (stp_eq_zero hr e)
/-- Some bits stand, all of them within 32 places. -/
theorem serial_burst (m : Nat → Bool) (p L : Nat) (hw : ∀ j, j < L → m j = true → p ≤ j ∧ j < p + 32) (hne : ∃ j, j < L ∧ m j = true) : serial m 0 L ≠ 0 := by
  obtain ⟨j0, hj0, hm0⟩ := hne
  obtain ⟨hp, hp2⟩ := hw j0 hj0 hm0
  have off : ∀ j, j < L → ¬(p ≤ j ∧ j < p + 32) → m j = false := fun j hj hn => by
    cases h : m j with
    | false => rfl
    | true => exact absurd (hw j hj h) hn
  obtain ⟨q, hq⟩ : ∃ q, q = min 32 (L - p) := ⟨_, rfl⟩
  have hL : L = p + (q + (L - p - q)) := by omega
  rw [hL, serial_add, serial_zero m p fun j hj => off j (by omega) (by omega), serial_add]
  obtain ⟨x, hx⟩ : ∃ x, x = bitsOf (fun j => m (p + j)) q := ⟨_, rfl⟩
  have hxl : x < 2 ^ q := by rw [hx]; exact bitsOf_lt _ _
  have hx32 : x < 4294967296 := Nat.lt_of_lt_of_le hxl (Nat.pow_le_pow_right (by decide) (show q ≤ 32 by omega))
  have hx0 : x ≠ 0 := fun e => by
    have h1 := bitsOf_test (fun j => m (p + j)) q (j0 - p)
    rw [← hx, e, Nat.zero_testBit, show decide (j0 - p < q) = true from decide_eq_true (by omega), show p + (j0 - p) = j0 by omega, hm0] at h1
    cases h1
  have h1 : serial (fun j => m (p + j)) 0 q = steps q x := by
    have h2 := steps_serial q 0 x (fun j => x.testBit j) (fun _ => rfl) hxl
    rw [Nat.zero_xor] at h2
    rw [h2]
    exact serial_congr fun j hj => by
      show m (p + j) = x.testBit j
      rw [hx, bitsOf_test, decide_eq_true hj]; rfl
  rw [h1]
  obtain ⟨n1, n2⟩ := steps_ne q x hx32 hx0
  exact (serial_rest _ _ _ n2 n1 fun j hj => off _ (by omega) (by omega)).1
/-- The bits of a list of bytes that are put onto others: some, within 32 places. -/
def Burst (p : Nat) (e : List UInt8) : Prop := ∀ j, msgBit e j = true → p ≤ j ∧ j < p + 32
theorem msgBit_lt {e : List UInt8} {j : Nat} (h : msgBit e j = true) : j < 8 * e.length := by
  unfold msgBit at h
  split at h
  · rename_i x hx
    have := (List.getElem?_eq_some_iff.1 hx).1
    omega
  · cases h
theorem over_burst {p : Nat} {e : List UInt8} (hw : Burst p e) (hne : ∃ j, msgBit e j = true) : over 0 e ≠ 0 := by
  rw [over_serial]
  obtain ⟨j, hj⟩ := hne
  exact serial_burst _ p _ (fun j _ h => hw j h) ⟨j, msgBit_lt hj, hj⟩
theorem over_zeros (n : Nat) : over 0 (List.replicate n 0) = 0 := by
  rw [over_serial]
  exact serial_zero _ _ fun j _ => by
    unfold msgBit
    split
    · rename_i x hx
      have := List.mem_of_getElem? hx
      rw [List.mem_replicate] at this
      rw [this.2]; simp
    · rfl
/-- What stands behind some bytes is their sum, or it is told: turned bits are told just where the register sees them. -/
def sumOk (l q : List UInt8) : Prop := unle q = crcSum l
set_option maxRecDepth 100000 in
theorem sumOk_iff (l q : List UInt8) (hq : q.length = 4) : sumOk l q ↔ over 4294967295 (l ++ q) = zeros4 4294967295 := by
  match q, hq with
  | [a, b, c, d], hq =>
    have e := unle_four a b c d
    have hlt : unle [a, b, c, d] < 4294967296 := by
      have h := unle_lt [a, b, c, d]
      rw [hq] at h
      omega
    exact sum_iff l _ hlt a b c d e
def xorB (l e : List UInt8) : List UInt8 := List.zipWith (· ^^^ ·) l e
theorem sumOk_turned (l q e1 e2 : List UInt8) (hq : q.length = 4) (h1 : l.length = e1.length) (h2 : e2.length = 4) (ho : sumOk l q) : sumOk (xorB l e1) (xorB q e2) ↔ over 0 (e1 ++ e2) = 0 := by
  have hx : xorB l e1 ++ xorB q e2 = xorB (l ++ q) (e1 ++ e2) := by
    unfold xorB
    rw [List.zipWith_append h1]
  have hlen : (xorB q e2).length = 4 := by unfold xorB; rw [List.length_zipWith]; omega
  have h3 := (sumOk_iff l q hq).1 ho
  rw [sumOk_iff _ _ hlen, hx]
  unfold xorB
  have h4 := over_xor (l ++ q) (e1 ++ e2) (by rw [List.length_append, List.length_append]; omega) 4294967295 0
  rw [Nat.xor_zero] at h4
  rw [h4, h3]
  constructor
  · intro h
    have := congrArg (fun x => zeros4 4294967295 ^^^ x) h
    simpa [← Nat.xor_assoc] using this
  · intro h
    rw [h, Nat.xor_zero]
end Go.Proofs.YtcbebefdbdppdaaGreat

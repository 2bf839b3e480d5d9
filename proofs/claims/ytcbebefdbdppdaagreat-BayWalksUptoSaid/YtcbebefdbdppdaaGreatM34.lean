/- cairnlaw14.awake.; Long division bit by bit, and the register of layer 6: the same rest.; A burst of at most 32 bits is seen by the sum. No program in sight. -/
import Derived.Test.YtcbebefdbdppdaaGreatM30
import Derived.Test.YtcbebefdbdppdaaGreatM31
import Derived.Test.YtcbebefdbdppdaaGreatM33
import Derived.Test.YtcbebefdbdppdaaGreatM23
import Derived.Test.YtcbebefdbdppdaaGreatM12
import Derived.Test.YtcbebefdbdppdaaGreatM15
namespace Go.Proofs.YtcbebefdbdppdaaGreat
open Go.RowKit Go.Maps
theorem num_any (e : Int) (w : World) : Calls Tryz.prog 13 #[.int .i64 e] w fun r w' => r = .returned (.int .i64 e) ∧ w = w' := by
  go_enter Tryz.func13, Tryz.ntmps13
  go_wp2
  go_ret
  exact ⟨rfl, rfl⟩
theorem plain_may (key : List UInt8) (h1 : 1 ≤ key.length) (h2 : key.length ≤ 255) : (plainH key).may = 0 :=
  Hd.may_of ⟨show (1 : Int) ≤ 1 ∧ (1 : Int) ≤ 2 by decide, show (2 : Int) + 1 ≤ 255 by decide, show (1 : Int) ≤ 4 ∧ (4 : Int) ≤ 65536 by decide, ⟨h1, h2⟩, show (0 : Int) ≤ 10 ∧ (10 : Int) ≤ 1048576 by decide, show ((10 : Int) + 2 * 4 - 1) / (2 * 4) ≤ 4096 by decide, show (0 : Int) ≤ 2 ∧ (2 : Int) < 2 + 1 by decide, show (1 : Int) ≤ 3 ∧ (3 : Int) ≤ 4294967295 by decide, show (1 : Int) ≤ 5 ∧ (5 : Int) ≤ 4294967295 by decide⟩
theorem look_none {w : World} {b : Nat} {want : Hd} {v : Value} (h : LookAt w b [] 110 want v) : v = .agg (seen0 1 0) := by
  unfold LookAt at h
  rwa [if_neg (fun h => absurd h.1 (by decide))] at h
theorem glance_none {want : Hd} {v : Value} (h : GlanceAt [] 110 want v) : v = .agg (seen0 1 0) := by
  unfold GlanceAt at h
  rwa [if_neg (fun h => absurd h.1 (by decide))] at h
set_option maxRecDepth 100000 in
set_option maxHeartbeats 16000000 in
theorem awake_any (w : World) : Calls Tryz.prog 9 #[] w fun e w' => e = .returned (.bool true) ∧ Below w.heap.size w w' := by
  have hkk : keyN (objN [97]) = some [97] := by decide
  have hon : named (objN [97]) = true := objN_named (by decide)
  have hmay := plain_may [97] (by decide) (by decide)
  have hlens : plainL.map List.length = (plainH [97]).lens := by decide
  have hwf : (plainH [97]).Wf := ⟨rfl, by unfold I64; decide, by unfold I64; decide, by unfold I64; decide, by unfold I64; decide⟩
  obtain ⟨H, hH⟩ : ∃ H, H = plainH [97] := ⟨_, rfl⟩
  have hHk : H.key = [97] := by rw [hH]; rfl
  have hHs : H.st.length = 8 := by rw [hH]; rfl
  obtain ⟨bs, hbs⟩ : ∃ bs, bs = shardBytes H plainL := ⟨_, rfl⟩
  have hbl : bs.length = 54 := by rw [hbs, shard_length H hHs plainL (by rw [hH]; exact hlens), hH]; decide
  have HST := Lib.hid (stored_new 1000 (by decide) (objN [97]) bs hon (objN_ne _) (fun e => by rw [e] at hbl; cases hbl) (by omega) Wnd.new.count 1 Calm.new.count (by have h9 := struck_okn Wnd.Okn.new false; rw [Calm.new.struck] at h9; exact h9))
  obtain ⟨Y, T, x, hy⟩ : ∃ Y T x, awrite Wnd.new.count (Drv.new 1000) (objN [97]) bs = (Y, T, x) := ⟨_, _, _, rfl⟩
  have HYT := Lib.hid hy
  rw [hy] at HST
  obtain ⟨hx0, hsd⟩ := HST.out
  obtain rfl : x = 0 := hx0
  have HSD : Hid (Stored Y T (objN [97]) bs 1000 6 5) := Lib.hid hsd
  rw [← hH] at hmay hlens hwf
  have HHH := Lib.hid (And.intro hH (And.intro hHk (And.intro hHs (And.intro hmay (And.intro hlens (And.intro hwf (And.intro hbs hbl)))))))
  have HKK := Lib.hid (And.intro hkk hon)
  clear hsd HST hy hH hHk hHs hbs hbl hmay hlens hwf hkk hon
  go_enter Tryz.func9, Tryz.ntmps9
  go_wp2_with fail
  refine (newb_any 1000 _ (by decide) (by decide)).mono ?_
  rintro e w1 ⟨p, rfl, hdr, hb1⟩
  have HB1 := Lib.hid hb1
  have HDR := Lib.hid hdr
  clear hb1 hdr
  go_wp2_with fail
  refine (wnewb_any w.heap.size p (Drv.new 1000) w1 HB1.out.size HDR.out).mono ?_
  rintro e w2 ⟨q, rfl, hwd, hb2⟩
  have HB2 : Hid (Below w.heap.size w w2) := Lib.hid (HB1.out.trans (hb2.mono HB1.out.size))
  obtain ⟨F, hF⟩ : ∃ F : Nat → Prop, F = fun k => w.heap.size ≤ k ∧ k < w2.heap.size := ⟨_, rfl⟩
  have HD2 : Hid (WD w2 q p Wnd.new (Drv.new 1000) F) := Lib.hid (by rw [hF]; exact hwd)
  have HF2 : Hid (∀ k, F k → w.heap.size ≤ k ∧ k < w2.heap.size) := Lib.hid (by rw [hF]; exact fun _ h => h)
  clear hwd hb2 hF
  go_wp2_with fail
  have hPL := plain_any [97] w2
  unfold strV at hPL
  refine hPL.mono ?_
  clear hPL
  rintro e w3 ⟨g, rfl, hbo, hb3⟩
  rw [← HHH.out.1]
  have HBO : Hid (BlksOff w3 w3.heap.size F (some ⟨g, 0, none⟩) 2 plainL) := Lib.hid (hbo.mono fun k _ hk => (HF2.out k hk).2)
  have HB3 : Hid (Below w2.heap.size w2 w3) := Lib.hid hb3
  clear hbo hb3
  unfold shV
  have hcs := hdCells_size HHH.out.2.2.1
  have hone := hd_one H
  obtain ⟨HC, hHC⟩ : ∃ HC, HC = hdCells H := ⟨_, rfl⟩
  rw [← hHC] at hcs hone ⊢
  have HCE := Lib.hid hHC
  have HCS := Lib.hid hcs
  have HSS : Hid ((HC.push (.slice (some ⟨g, 0, none⟩) 2 2)).size = 17 ∧ ∀ v ∈ (HC.push (.slice (some ⟨g, 0, none⟩) 2 2)).toList, v.oneCell' = true) := Lib.hid ⟨by rw [Array.size_push, hcs], push_one hone⟩
  clear hcs hone hHC
  obtain ⟨SC, hSC⟩ : ∃ SC, SC = HC.push (.slice (some ⟨g, 0, none⟩) 2 2) := ⟨_, rfl⟩
  rw [← hSC] at HSS ⊢
  have HSE := Lib.hid hSC
  clear hSC
  obtain ⟨W4, hr4, hk4, ht4, _⟩ := store_sh (w := w3.alloc (.cells zeroSh 31)) (R := w3.heap.size) (CK := SC) (Blk.new _ _ _) rfl HSS.out.1 HSS.out.2
  have HB4 : Hid (Below w3.heap.size w3 W4) := Lib.hid (((Below.refl _ w3).alloc (Nat.le_refl _) _).trans (ht4.below (by rw [alloc_size]; exact Nat.le_succ _) (fun k hk => Nat.le_of_eq hk.symm)))
  have HS4 := Lib.hid hk4
  have h34 : w3.heap.size + 1 ≤ W4.heap.size := hk4.lt
  have h23 : w2.heap.size ≤ w3.heap.size := HB3.out.size
  have h02 : w.heap.size ≤ w2.heap.size := HB2.out.size
  clear hk4 ht4
  have hL4 := load_head_in (bv := .slice (some ⟨g, 0, none⟩) 2 2) (by rw [← HSE.out]; exact HS4.out) HCS.out
  go_wp2_with (first
    | (refine wpList_store_at rfl 31 _ _ rfl ⟨w3.heap.size, 0, none⟩ rfl (.agg SC) rfl W4 hr4 ?_)
    | (refine wpList_load_at rfl 28 _ rfl ⟨w3.heap.size, 0, none⟩ rfl (.agg HC) hL4 ?_)
    | fail)
  clear hr4 hL4
  have HD4 : Hid (WD W4 q p Wnd.new (Drv.new 1000) F) := Lib.hid ((HD2.out.below HB3.out).below HB4.out)
  have hLK := blook_any q p Wnd.new (Drv.new 1000) F H HHH.out.2.2.1 (by rw [HHH.out.2.1]; decide) (by rw [HHH.out.2.1]; decide) W4 HD4.out (fun k hk => by have := HF2.out k hk; omega) (Wnd.Okn.new.ok (by decide)) ((kept_new 1000 (by decide)).drv.small (by decide)) Wnd.new.count [] 110
    (by rw [Calm.new.read, read_shows (by rw [HHH.out.2.1]; exact HKK.out.2)]; rfl) (by decide)
  unfold hdV at hLK
  rw [← HCE.out] at hLK
  refine hLK.mono ?_
  clear hLK
  rintro e w5 ⟨v, rfl, hla, hd5, ht5⟩
  obtain rfl := look_none hla
  have HD5 := Lib.hid hd5
  have HT5 := Lib.hid ht5
  clear hla hd5 ht5
  obtain ⟨W6, hr6, hk6, ht6, _⟩ := store_seen (w := w5.alloc (.cells (seen0 0 0) 57)) (R := w5.heap.size) (CK := seen0 1 0) (Blk.new _ _ _) rfl rfl (seen0_one _ _)
  have HB6 : Hid (Below w5.heap.size w5 W6) := Lib.hid (((Below.refl _ w5).alloc (Nat.le_refl _) _).trans (ht6.below (by rw [alloc_size]; exact Nat.le_succ _) (fun k hk => Nat.le_of_eq hk.symm)))
  have h45 : W4.heap.size ≤ w5.heap.size := HT5.out.size
  have h56 : w5.heap.size + 1 ≤ W6.heap.size := hk6.lt
  have HFn : Hid (∀ k, w2.heap.size ≤ k → ¬F k) := Lib.hid fun k h hk => by have := HF2.out k hk; omega
  have HS6 : Hid (Blk W6 w3.heap.size 31 SC) := Lib.hid ((HS4.out.touch HT5.out (HFn.out _ h23)).below HB6.out (by omega))
  have HK6 := Lib.hid hk6
  have y0 : W6.cell? ⟨w5.heap.size, 0, none⟩ = some (.int .i64 1) := HK6.out.cell 0
  have hL6 := load_sh HS6.out HSS.out.1
  clear hk6 ht6
  go_wp2_with (first
    | (refine wpList_store_at rfl 57 _ _ rfl ⟨w5.heap.size, 0, none⟩ rfl (.agg (seen0 1 0)) rfl W6 hr6 ?_)
    | (refine wpList_load_if 31 _ rfl (by rfl) ⟨w3.heap.size, 0, none⟩ rfl (.agg SC) hL6 ?_)
    | fail)
  have HB36 : Hid (BlksOff W6 w3.heap.size F (some ⟨g, 0, none⟩) 2 plainL) := Lib.hid (((HBO.out.below HB4.out).touch HT5.out (by omega) (fun _ _ h => h)).below (HB6.out.mono (by omega)))
  have hST := bstore_ok q p Wnd.new.count (Drv.new 1000) F H HHH.out.2.2.2.2.2.1 (Hd.fit_of HHH.out.2.2.2.1) plainL HHH.out.2.2.2.2.1 (some ⟨g, 0, none⟩) 2 2 W6 (HB36.out.more (by omega)).at_ (HD5.out.below HB6.out) (fun k hk => by have := HF2.out k hk; omega)
    1 0 1000 ⟨by have h9 := struck_okn Wnd.Okn.new false; rw [Calm.new.struck] at h9; exact h9, (kept_new 1000 (by decide)).drv, rfl⟩ (by decide) (by decide) Y T 0 (by rw [HHH.out.2.1, ← HHH.out.2.2.2.2.2.2.1]; exact HYT.out)
  unfold shV at hST
  rw [← HCE.out, ← HSE.out] at hST
  refine hST.mono ?_
  clear hST hr6 y0 hL6
  rintro e w7 ⟨rfl, hd7, ht7⟩
  obtain ⟨F7, hF7⟩ : ∃ F7 : Nat → Prop, F7 = grow F W6 w7 := ⟨_, rfl⟩
  rw [← hF7] at hd7
  have HD7 := Lib.hid hd7
  have HT7 := Lib.hid ht7
  have h67 : W6.heap.size ≤ w7.heap.size := ht7.size
  have HF7 : Hid (∀ k, F7 k → w.heap.size ≤ k ∧ k < w7.heap.size ∧ (k < w2.heap.size ∨ W6.heap.size ≤ k)) := Lib.hid fun k hk => by
    rw [hF7] at hk
    rcases hk with hk | hk
    · have := HF2.out k hk; omega
    · omega
  have HS7 : Hid (Blk w7 w3.heap.size 31 SC) := Lib.hid (HS6.out.touch ht7 (HFn.out _ h23))
  have HB37 : Hid (BlksOff w7 w3.heap.size F7 (some ⟨g, 0, none⟩) 2 plainL) := Lib.hid ((HB36.out.touch ht7 (by omega) (fun _ _ h => h)).mono (fun k hk h => by
    rw [hF7] at h
    rcases h with h | h
    · exact h
    · omega))
  clear hd7 ht7 hF7
  have hL7 := load_sh HS7.out HSS.out.1
  have hSH := showing_yes q p Y T F7 H HHH.out.2.2.1 HHH.out.2.2.2.1 plainL HHH.out.2.2.2.2.1 (some ⟨g, 0, none⟩) 2 2 w7 (HB37.out.more (by omega)) (by decide) HD7.out (fun k hk => (HF7.out k hk).2.1) 6 HSD.out.kept.wnd (by decide) (HSD.out.kept.drv.small (by decide)) HSD.out.calm
    (by rw [HHH.out.2.1, ← HHH.out.2.2.2.2.2.2.1]; exact HSD.out.read HKK.out.2)
  unfold shV at hSH
  rw [← HCE.out, ← HSE.out] at hSH
  have HSH := Lib.hid hSH
  clear hSH
  go_wp2_with (first
    | (go_at_call 13; refine (num_any _ _).mono ?_; rintro e w' ⟨rfl, rfl⟩)
    | (refine wpList_load_if 31 _ rfl (by rfl) ⟨w3.heap.size, 0, none⟩ rfl (.agg SC) hL7 ?_)
    | fail)
  refine HSH.out.mono ?_
  clear HSH hL7
  rintro e w8 ⟨rfl, hd8, ht8⟩
  have HSD8 := Lib.hid HSD.out.count.count
  have HD8 := Lib.hid hd8
  have HT8 := Lib.hid ht8
  have h78 : w7.heap.size ≤ w8.heap.size := ht8.size
  clear hd8 ht8
  have hKY := bkeys_any q p Y.count.count T F7 w8 (HSD.out.names (by decide)).1 (HSD.out.names (by decide)).2.1 (Nat.le_trans (HSD.out.names (by decide)).2.2 (by decide)) HD8.out (fun k hk => by have := HF7.out k hk; omega) (HSD8.out.kept.wnd.ok (by decide)) (HSD.out.kept.drv.small (by decide)) Y.count.count.count (dnames T.now) 0 (HSD8.out.calm.read _)
  have HKL : Hid (keysL (dnames T.now) 0 = [[97]]) := Lib.hid (by unfold keysL; rw [if_pos rfl]; exact HSD.out.keys HKK.out.1)
  rw [HKL.out] at hKY
  have HKY := Lib.hid hKY
  clear hKY
  go_wp2_with fail
  refine HKY.out.mono ?_
  clear HKY
  rintro e w9 ⟨v9, rfl, ho9, hd9, ht9⟩
  obtain ⟨A9, c9, rfl, _⟩ := own_shape ho9
  have HO9 := Lib.hid ho9
  have HD9 := Lib.hid hd9
  have HT9 := Lib.hid ht9
  have h89 : w8.heap.size ≤ w9.heap.size := ht9.size
  have HF9 : Hid (∀ k, F7 k → k < w3.heap.size ∨ W6.heap.size ≤ k) := Lib.hid fun k hk => by have := HF7.out k hk; omega
  have HN3 : Hid (¬F7 w3.heap.size) := Lib.hid fun h => by have := HF7.out _ h; omega
  have HS9 : Hid (Blk w9 w3.heap.size 31 SC) := Lib.hid ((HS7.out.touch HT8.out HN3.out).touch ht9 HN3.out)
  clear ho9 hd9 ht9
  have hL9 := load_head_in (bv := .slice (some ⟨g, 0, none⟩) 2 2) (by rw [← HSE.out]; exact HS9.out) HCS.out
  have HSD9 := Lib.hid HSD8.out.count
  have hWK := callsIn_wide.1 (walked_in 0 q p Y.count.count.count T F7 w9 H HHH.out.2.2.1 (-1) 9 9 (HSD.out.names (by decide)).1 (HSD.out.names (by decide)).2.1 (Nat.le_trans (HSD.out.names (by decide)).2.2 (by decide)) (fun nm => read_le HSD.out.kept.drv nm) HD9.out (fun k hk => by have := HF7.out k hk; omega) HSD9.out.kept.wnd (by have := (HSD.out.names (by decide)).2.2; omega) (HSD.out.kept.drv.small (by decide)) Y.count.count.count.count (dnames T.now) 0 (HSD9.out.calm.read _))
  rw [HKL.out] at hWK
  unfold hdV at hWK
  rw [← HCE.out] at hWK
  have HWK := Lib.hid hWK
  clear hWK
  go_wp2_with (first
    | (refine wpList_load_at rfl 28 _ rfl ⟨w3.heap.size, 0, none⟩ rfl (.agg HC) hL9 ?_)
    | fail)
  refine HWK.out.mono ?_
  clear HWK hL9
  rintro e w10 ⟨v, us, rfl, ho10, hto, hle, hns, hor, hd10, ht10⟩
  have hlen : us.length = 1 := by
    have h1 : us.length ≤ 1 := hle
    rcases hor with h | ⟨h, h2⟩
    · exact h
    · rcases h2 with ⟨h3, _⟩ | h3
      · omega
      · omega
  obtain ⟨⟨k, cs⟩, rfl⟩ : ∃ u, us = [u] := by
    match us, hlen with
    | [u], _ => exact ⟨u, rfl⟩
  obtain ⟨hk97, hcs19, Z, ds, e0, hrd, hla⟩ := hto 0 (k, cs) rfl
  obtain rfl : k = [97] := by injection hk97 with h; exact h.symm
  have hHeq : ({ H with key := [97] } : Hd) = H := by rw [← HHH.out.2.1]
  have hrd2 : (ds, e0) = (bs, (0 : Int)) := by
    have h9 : wread (struckN 0 Y.count.count.count.count) (T.read (objN [97])) = (Z, ds, e0) := hrd
    rw [show struckN 0 Y.count.count.count.count = Y.count.count.count.count from rfl, HSD9.out.count.calm.read, HSD.out.read HKK.out.2] at h9
    injection h9 with _ h9
    exact h9.symm
  injection hrd2 with e1 e2
  subst e1 e2
  rw [hHeq, HHH.out.2.2.2.2.2.2.1] at hla
  obtain ⟨sv, hcs, _⟩ := look_yes HHH.out.2.2.1 HHH.out.2.2.2.1 HHH.out.2.2.2.2.1 hla
  injection hcs with hcs
  have hcs' : cs = seenS ((hdCells H).push sv) := hcs
  have HCS0 : Hid (cs.toList[0]? = some (.int .i64 2)) := Lib.hid (by rw [hcs']; rfl)
  rw [List.length_singleton] at ho10
  obtain ⟨A10, c10, rfl, _⟩ := own_shape ho10
  have hro := Reads.of_own ho10
  obtain ⟨ad, hA10, _, hcl⟩ := hro.2 (by decide)
  subst hA10
  have had : ∃ g10, ad = ⟨g10, 0, none⟩ := by
    rcases ho10.2 with ⟨h, _⟩ | ⟨g', cap, cur, h, _⟩
    · cases h
    · injection h with h; injection h with h; exact ⟨g', h⟩
  obtain ⟨g10, rfl⟩ := had
  have z0 : w10.cell? ⟨g10, 0, none⟩ = some (.string { data := #[97] }) := hcl 0 _ rfl
  have z1 : w10.cell? ⟨g10, 1, none⟩ = some (.int .i64 2) := hcl 1 _ (by unfold flatP; rw [List.flatMap_cons, List.flatMap_nil, List.append_nil]; exact HCS0.out)
  have hr9 := Reads.of_own HO9.out
  obtain ⟨ad9, hA9, _, hcl9⟩ := hr9.2 (by decide)
  subst hA9
  have hp9 := own_place HO9.out ad9 rfl
  have had9 : ∃ g9, ad9 = ⟨g9, 0, none⟩ := by
    rcases HO9.out.2 with ⟨h, _⟩ | ⟨g', cap, cur, h, _⟩
    · cases h
    · injection h with h; injection h with h; exact ⟨g', h⟩
  obtain ⟨g9, rfl⟩ := had9
  have x0 : w10.cell? ⟨g9, 0, none⟩ = some (.string { data := #[97] }) := by
    rw [World.cell?_of_block (ht10.block g9 hp9.2 (fun h => by have := HF7.out _ h; have := hp9.1; simp at *; omega))]
    exact hcl9 0 _ rfl
  have HD10 : Hid (WD w10 q p Y.count.count.count.count.count T F7) := Lib.hid (by
    have h9 : WD w10 q p (Y.count.count.count.count.struck false).1 T F7 := hd10
    rw [HSD9.out.count.calm.struck] at h9
    exact h9)
  have HT10 := Lib.hid ht10
  have h910 : w9.heap.size ≤ w10.heap.size := ht10.size
  have HS10 : Hid (Blk w10 w3.heap.size 31 SC) := Lib.hid (HS9.out.touch ht10 HN3.out)
  have HSDA := Lib.hid HSD9.out.count.count
  clear hla hcs hcs' hcl hcl9 hr9 hp9 hro ho10 hto hle hns hor hd10 ht10 hlen hk97 hcs19 hrd hHeq
  have hGN := HSDA.out.gone HKK.out.2 (by decide)
  have HGN := Lib.hid hGN
  have hDR := bdrop_any q p Y.count.count.count.count.count T F7 [97] (by decide) (by decide) w10 HD10.out (fun k hk => by have := HF7.out k hk; omega) (HSDA.out.kept.wnd.ok (by decide)) (HSDA.out.kept.drv.small (by decide)) (hGN.2.2.2.2.1.ok (by decide)) (hGN.2.2.2.2.2.small (by decide))
  rw [hGN.1, hGN.2.1] at hDR
  clear hGN
  obtain ⟨T2, hT2⟩ : ∃ T2, T2 = (aremove Y.count.count.count.count.count T (objN [97])).2.1 := ⟨_, rfl⟩
  rw [← hT2] at hDR HGN
  clear hT2
  have HDR2 := Lib.hid hDR
  clear hDR
  unfold strV at HDR2
  go_wp2_with (first
    | (go_at_call 13; refine (num_any _ _).mono ?_; rintro e w' ⟨rfl, rfl⟩)
    | fail)
  refine HDR2.out.mono ?_
  clear HDR2 z0 z1 x0
  rintro e w11 ⟨rfl, hd11, ht11⟩
  have HD11 := Lib.hid hd11
  have HT11 := Lib.hid ht11
  have h1011 : w10.heap.size ≤ w11.heap.size := ht11.size
  have HS11 : Hid (Blk w11 w3.heap.size 31 SC) := Lib.hid (HS10.out.touch ht11 HN3.out)
  clear hd11 ht11
  have hL11 := load_head_in (bv := .slice (some ⟨g, 0, none⟩) 2 2) (by rw [← HSE.out]; exact HS11.out) HCS.out
  have hGL := bglance_any q p Y.count.count.count.count.count.count.count T2 (grow F7 w10 w11) H HHH.out.2.2.1 (by rw [HHH.out.2.1]; decide) (by rw [HHH.out.2.1]; decide) w11 HD11.out (fun k hk => by
    rcases hk with hk | hk
    · have := HF7.out k hk; omega
    · exact hk.2) (HGN.out.2.2.1.wnd.ok (by decide)) (HGN.out.2.2.1.drv.small (by decide)) Y.count.count.count.count.count.count.count.count [] 110 (by rw [HSDA.out.count.count.calm.read, HHH.out.2.1, HGN.out.2.2.2.1]) (by decide)
  unfold hdV at hGL
  rw [← HCE.out] at hGL
  have HGL := Lib.hid hGL
  clear hGL
  go_wp2_with (first
    | (refine wpList_load_at rfl 28 _ rfl ⟨w3.heap.size, 0, none⟩ rfl (.agg HC) hL11 ?_)
    | fail)
  refine HGL.out.mono ?_
  clear HGL hL11
  rintro e w12 ⟨v, rfl, hga, hd12, ht12⟩
  obtain rfl := glance_none hga
  have HT12 := Lib.hid ht12
  clear hga hd12 ht12
  obtain ⟨W13, hr13, hk13, ht13, _⟩ := store_seen (w := w12.alloc (.cells (seen0 0 0) 57)) (R := w12.heap.size) (CK := seen0 1 0) (Blk.new _ _ _) rfl rfl (seen0_one _ _)
  have HB13 : Hid (Below w12.heap.size w12 W13) := Lib.hid (((Below.refl _ w12).alloc (Nat.le_refl _) _).trans (ht13.below (by rw [alloc_size]; exact Nat.le_succ _) (fun k hk => Nat.le_of_eq hk.symm)))
  have y0 : W13.cell? ⟨w12.heap.size, 0, none⟩ = some (.int .i64 1) := hk13.cell 0
  have HK13 := Lib.hid hk13
  clear hk13 ht13
  go_wp2_with (first
    | (refine wpList_store_at rfl 57 _ _ rfl ⟨w12.heap.size, 0, none⟩ rfl (.agg (seen0 1 0)) rfl W13 hr13 ?_)
    | (go_at_call 13; refine (num_any _ _).mono ?_; rintro e w' ⟨rfl, rfl⟩)
    | fail)
  go_ret
  refine ⟨rfl, ?_⟩
  have l0 : ∀ {a b : World} {G : Nat → Prop}, Touch G a b → w.heap.size ≤ a.heap.size → (∀ k, G k → w.heap.size ≤ k) → Below w.heap.size a b := fun h1 h2 h3 => h1.below h2 h3
  have hFw : ∀ k, F k → w.heap.size ≤ k := fun k hk => (HF2.out k hk).1
  have hF7w : ∀ k, F7 k → w.heap.size ≤ k := fun k hk => (HF7.out k hk).1
  have hG12 : ∀ k, grow F7 w10 w11 k → w.heap.size ≤ k := fun k hk => by
    rcases hk with hk | hk
    · exact hF7w k hk
    · omega
  have b4 : Below w.heap.size w W4 := (HB2.out.trans (HB3.out.mono h02)).trans (HB4.out.mono (by omega))
  have b6 : Below w.heap.size w W6 := (b4.trans (l0 HT5.out (by omega) hFw)).trans (HB6.out.mono (by omega))
  have b9 : Below w.heap.size w w9 := ((b6.trans (l0 HT7.out (by omega) hFw)).trans (l0 HT8.out (by omega) hF7w)).trans (l0 HT9.out (by omega) hF7w)
  have b12 : Below w.heap.size w w12 := ((b9.trans (l0 HT10.out (by omega) hF7w)).trans (l0 HT11.out (by omega) hF7w)).trans (l0 HT12.out (by omega) hG12)
  exact b12.trans (HB13.out.mono (by have := b12.size; omega))
end Go.Proofs.YtcbebefdbdppdaaGreat
namespace Go.Proofs.YtcbebefdbdppdaaGreat
def crcTerms : List Nat := [0, 4, 5, 6, 7, 9, 10, 12, 13, 14, 18, 19, 21, 22, 23, 24, 26, 32]
def divStep (i : Nat) (f : Nat → Bool) : Nat → Bool := fun j => if f i then (f j != (decide (i ≤ j) && crcTerms.contains (j - i))) else f j
def bitN (b : Bool) : Nat := if b then 1 else 0
def serial (m : Nat → Bool) (r : Nat) : Nat → Nat
  | 0 => r
  | i + 1 => stp (serial m r i ^^^ bitN (m i))
def divUpto (f : Nat → Bool) : Nat → Nat → Bool
  | 0 => f
  | i + 1 => divStep i (divUpto f i)
def byteBit (x k : Nat) : Bool := x.testBit k
def steps : Nat → Nat → Nat
  | 0, r => r
  | k + 1, r => steps k (stp r)
def msgBit (l : List UInt8) (j : Nat) : Bool := match l[j / 8]? with | some x => x.toNat.testBit (j % 8) | none => false
end Go.Proofs.YtcbebefdbdppdaaGreat
namespace Go.Proofs.YtcbebefdbdppdaaGreat
def bitsOf (m : Nat → Bool) : Nat → Nat
  | 0 => 0
  | q + 1 => bitN (m 0) + 2 * bitsOf (fun j => m (j + 1)) q
def Burst (p : Nat) (e : List UInt8) : Prop := ∀ j, msgBit e j = true → p ≤ j ∧ j < p + 32
theorem msgBit_lt {e : List UInt8} {j : Nat} (h : msgBit e j = true) : j < 8 * e.length := by
  unfold msgBit at h
  split at h
  · rename_i x hx
    have := (List.getElem?_eq_some_iff.1 hx).1
    omega
  · cases h
def sumOk (l q : List UInt8) : Prop := unle q = crcSum l
def xorB (l e : List UInt8) : List UInt8 := List.zipWith (· ^^^ ·) l e
end Go.Proofs.YtcbebefdbdppdaaGreat

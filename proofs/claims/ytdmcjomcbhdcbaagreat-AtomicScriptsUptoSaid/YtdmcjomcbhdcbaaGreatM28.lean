/- The document's drive, walked: Safe.; The document's disk, walked: Append, Read, List; its end of a round, its power, its loss of power.; The document's disk, walked: Read, List; the end of a round; its power. A wound's List. -/
import Derived.Test.YtdmcjomcbhdcbaaGreatM27
namespace Go.Proofs.YtdmcjomcbhdcbaaGreat
open Go.RowKit Go.Maps

set_option maxRecDepth 100000 in
set_option maxHeartbeats 2000000 in
theorem msafe_any (p : Nat) (S : Drv) (F : Nat → Prop) (w : World) (hd : Md w p S F) (hS : MOk S) (hkr : ∀ s i, dget S.kept s = some i → i < S.bodies.length) (hsf : ∀ i, (S.body i).safe ≤ S.len i) :
    Calls Tryz.prog 76 #[.pointer (some ⟨p, 0, none⟩)] w fun e w' => ∃ v, e = .returned v ∧ FilesAt w' w.heap.size v S.safes ∧ Below w.heap.size w w' := by
  obtain ⟨L, h, hF⟩ := hd
  obtain ⟨iF, hiF, hz0, hz1, hz2⟩ := info_parts fileInfo
  obtain ⟨an, cn, hvn, _⟩ := own_shape h.rows.kept
  have c2 : w.cell? ⟨p, 3, none⟩ = some (.slice an (dents S.kept).length cn) := by have := h.head.cell 3; rw [this]; show some L.vk = _; rw [hvn]
  have c1 : w.cell? ⟨p, 1, none⟩ = some L.vb := h.head.cell 1
  have hrow := h.rows.kept
  rw [hvn] at hrow
  have hpl := h.head.lt
  obtain ⟨n, hn⟩ : ∃ n, n = (dents S.kept).length := ⟨_, rfl⟩
  rw [← hn] at c2 hrow
  have hnb : n ≤ 1099511627776 := by rw [hn, dents_length]; exact hS.skept
  have HN := Lib.hid hn.symm
  have HR := Lib.hid hrow
  have HH := Lib.hid h
  have HS := Lib.hid hS
  have HKR := Lib.hid hkr
  have HSF := Lib.hid hsf
  have HE := Lib.hid (dents_ents hS.kept)
  have HIL : Hid (S.safes.length = n) := Lib.hid (by rw [safes_dents, List.length_map, hn])
  clear h hF hvn hrow hn hS hkr hsf
  go_enter Tryz.func76, Tryz.ntmps76
  go_wp2
  go_loopw [3, 4] (fun s i wr => ∃ k : Nat, k ≤ n ∧ i = .int .i64 k ∧ FilesAt wr w.heap.size s (S.safes.take k) ∧ Below w.heap.size w wr) (fun _ i _ => n - (intOf i).toNat)
  case atStart => exact ⟨0, Nat.zero_le _, rfl, FilesAt.nil _ _, Below.refl _ _⟩
  case round =>
    obtain ⟨k, hk, rfl, ⟨vals, hvl, hown, hdat⟩, hbel⟩ := hrel
    have hszz : w.heap.size ≤ wr.heap.size := hbel.size
    have y2 : wr.cell? ⟨p, 3, none⟩ = some (.slice an n cn) := (hbel.cell (p := ⟨p, 3, none⟩) hpl).trans c2
    have hik : (S.safes.take k).length = k := by rw [List.length_take, HIL.out]; omega
    rw [hik] at hown hvl
    obtain ⟨a3, c3, rfl, _⟩ := own_shape hown
    have HB := Lib.hid hbel
    by_cases hlt : k < n
    · obtain ⟨⟨t, i⟩, hti⟩ : ∃ x, (dents S.kept)[k]? = some x := ⟨_, List.getElem?_eq_getElem (by rw [HN.out]; exact hlt)⟩
      obtain ⟨b, rfl, hbl, x1, x2⟩ := row_pair HR.out hti HN.out
      simp only [strV] at x1
      simp only [intZ] at x2
      have hi : i < S.bodies.length := HKR.out t i (ents_get HE.out hti)
      obtain ⟨g, c, ad, cd, hv, hgl, hnc, hda, hcd, z1, z2, _⟩ := bod_get HH.out.rows hi
      have hnbl := HS.out.nb
      have hleni := HS.out.len i
      have hrd := HH.out.rows.data i hi
      rw [hda] at hrd
      obtain ⟨sf, hsf⟩ : ∃ sf, sf = (S.body i).safe := ⟨_, rfl⟩
      have hsl : sf ≤ S.len i := by rw [hsf]; exact HSF.out i
      obtain ⟨dt, hdt⟩ : ∃ dt, dt = (S.body i).data.take sf := ⟨_, rfl⟩
      have HDL : Hid (dt.length = sf) := Lib.hid (by rw [hdt, List.length_take]; have : (S.body i).data.length = S.len i := rfl; omega)
      have HRD : Hid (∀ W, Below w.heap.size w W → Reads W W.heap.size 1 ad sf (dt.map B8)) := Lib.hid fun W hW => by
        have := (((Reads.of_own hrd).cutTo (m := sf) hsl).below hW).more hW.size
        rw [← List.map_take, ← hdt] at this; exact this
      rw [← hsf] at z2
      have y5 : wr.cell? ⟨g, i * 2 + 1, none⟩ = some (.int .i64 sf) := (hbel.cell (p := ⟨g, i * 2 + 1, none⟩) hgl).trans z2
      obtain ⟨nb, hnb2⟩ : ∃ nb, nb = S.bodies.length := ⟨_, rfl⟩
      have y1 : wr.cell? ⟨p, 1, none⟩ = some (.slice (some ⟨g, 0, none⟩) nb c) := by rw [hnb2, ← hv]; exact (hbel.cell (p := ⟨p, 1, none⟩) hpl).trans c1
      have y0 : wr.cell? ⟨b, k * 2, none⟩ = some (.string ⟨t.toArray⟩) := (hbel.cell (p := ⟨b, k * 2, none⟩) hbl).trans x1
      have y3 : wr.cell? ⟨b, k * 2 + 1, none⟩ = some (.int .i64 i) := (hbel.cell (p := ⟨b, k * 2 + 1, none⟩) hbl).trans x2
      have y4 : wr.cell? ⟨g, i * 2, none⟩ = some (.slice ad (S.len i) cd) := (hbel.cell (p := ⟨g, i * 2, none⟩) hgl).trans z1
      rw [← hnb2] at hi hnc hnbl
      have hst : S.safes.take (k + 1) = S.safes.take k ++ [(t, dt)] := take_snoc_ (by rw [safes_dents, List.getElem?_map, hti, hdt, hsf]; rfl)
      have hi0 : (0 : Int) ≤ (i : Int) := by omega
      have hi1 : (i : Int) < (nb : Int) := by omega
      have hk0 : (0 : Int) ≤ (k : Int) := by omega
      have hk1 : (k : Int) < (n : Int) := by omega
      have HST := Lib.hid hst
      have HOWN := Lib.hid hown
      have HDAT := Lib.hid hdat
      have HVL := Lib.hid hvl
      have HIK := Lib.hid hik
      have HM63 : Hid (k + 1 ≤ maxLen) := Lib.hid (by simp only [maxLen]; omega)
      have HB40 : Hid ((k + 1) * 40 ≤ 140737488355328) := Lib.hid (by omega)
      have HLL : Hid (sf ≤ 140737488351232) := Lib.hid (by omega)
      obtain ⟨li, hli⟩ : ∃ li, li = S.len i := ⟨_, rfl⟩
      rw [← hli] at y4 hsl hleni
      have hcd' : li ≤ cd := by rw [hli]; exact hcd
      have HQ : Hid (∀ W, Below w.heap.size w W → W.cell? ⟨p, 3, none⟩ = some (.slice (some ⟨b, 0, none⟩) n cn) ∧ W.cell? ⟨b, k * 2, none⟩ = some (.string ⟨t.toArray⟩)) := Lib.hid fun W hW => ⟨(hW.cell (p := ⟨p, 3, none⟩) hpl).trans c2, (hW.cell (p := ⟨b, k * 2, none⟩) hbl).trans x1⟩
      have hgl' : g < wr.heap.size := by omega
      have hpl' : p < wr.heap.size := by omega
      have hbl' : b < wr.heap.size := by omega
      clear hown hdat hvl hbel x1 x2 hti hv hda z1 z2 hnb2 hst hik hrd hli hsf hdt hcd
      go_wp2
      go_region
      all_goals
        refine exit_world fun X hX => ?_
        have HBK : Hid (Blk X wr.heap.size 161 #[.slice ad li cd, .int .i64 sf]) := Lib.hid (by rw [hX]; exact Blk.new _ _ _)
        have HBX : Hid (Below wr.heap.size wr X) := Lib.hid (by rw [hX]; exact below_drew1 ((Below.refl _ _).alloc (Nat.le_refl _) _))
        have hXs : X.heap.size = wr.heap.size + 1 := by rw [hX]; simp
        clear hX
        have HWX : Hid (Below w.heap.size w X) := Lib.hid (HB.out.trans (HBX.out.mono hszz))
        have HQX : Hid (∀ W, Below X.heap.size X W → W.cell? ⟨p, 3, none⟩ = some (.slice (some ⟨b, 0, none⟩) n cn) ∧ W.cell? ⟨b, k * 2, none⟩ = some (.string ⟨t.toArray⟩) ∧ W.cell? ⟨wr.heap.size, 0, none⟩ = some (.slice ad li cd) ∧ W.cell? ⟨wr.heap.size, 1, none⟩ = some (.int .i64 sf)) := Lib.hid fun W hW => by
          obtain ⟨q1, q2⟩ := HQ.out W (HWX.out.trans (hW.mono (by omega)))
          exact ⟨q1, q2, (hW.cell (p := ⟨wr.heap.size, 0, none⟩) (by show wr.heap.size < _; omega)).trans (HBK.out.cell 0), (hW.cell (p := ⟨wr.heap.size, 1, none⟩) (by show wr.heap.size < _; omega)).trans (HBK.out.cell 1)⟩
        have HOWNX : Hid (X.ownsRow w.heap.size 75 2 (.slice a3 k c3) k (fileCells (S.safes.take k) vals)) := Lib.hid (by have := ownsRow_below HOWN.out HBX.out; exact this)
        obtain ⟨v0, v1, v2, v3⟩ := HQX.out X (Below.refl _ _)
        have hs0 : (0 : Int) ≤ (sf : Int) := by omega
        have hs1 : (sf : Int) ≤ (cd : Int) := by omega
        go_wp2
        go_region_held3 (fun w' => w'.cell? ⟨p, 3, none⟩ = some (.slice (some ⟨b, 0, none⟩) n cn) ∧ w'.cell? ⟨b, k * 2, none⟩ = some (.string ⟨t.toArray⟩) ∧ w'.cell? ⟨wr.heap.size, 0, none⟩ = some (.slice ad li cd) ∧ w'.cell? ⟨wr.heap.size, 1, none⟩ = some (.int .i64 sf)) (first | go_keep | exact HQX.out _ HB2.out | exact HQX.out _ (HBA.out _) | exact HBZ.out) ((first
          | (go_at_call 88; refine (copied_any ad sf cd dt _ (HRD.out _ (below_drewN HWX.out _)) HLL.out).mono ?_; rintro e w2 ⟨v2, rfl, ho2, hb2⟩; obtain ⟨a2, c2', rfl, _⟩ := own_shape ho2; have HO2 : Hid (w2.ownsRow X.heap.size 5 1 (.slice a2 sf c2') sf (dt.map B8)) := Lib.hid ho2; have HB2 : Hid (Below X.heap.size X w2) := Lib.hid ⟨hb2.os, hb2.tape, hb2.output, hb2.size, hb2.block⟩; have hs2 : X.heap.size ≤ w2.heap.size := hb2.size; have HBA : Hid (∀ o, Below X.heap.size X (w2.alloc o)) := Lib.hid (fun o => HB2.out.alloc hs2 o); clear ho2 hb2)
          | (refine step_append_any _ rfl (.tmp 31) (.tmp 47) 22 rfl w.heap.size 75 iF _ 2 40 Tryz.underlying22 hiF hz0 hz1 hz2 rfl (by omega) _ k _ rfl ((ownsRow_below HOWNX.out HB2.out).alloc _) (w2.heap.size + 1) (some ⟨w2.heap.size, 0, none⟩) 1 1 [.string ⟨t.toArray⟩, .slice a2 sf c2'] rfl (by exact reads_blk (t := 75) (blk_last _ _ _ _ rfl) (by omega) rfl) (by intro u hu; simp at hu; rcases hu with rfl | rfl <;> rfl) HM63.out HB40.out (by rw [alloc_size]; omega) ?_; intro v3 w3 hown3 hg3 hat3; obtain ⟨a4, c4, rfl, _⟩ := own_shape hown3; have HOWN3 := Lib.hid hown3; have HG3 : Hid ((w2.alloc (.cells #[.string ⟨t.toArray⟩, .slice a2 sf c2'] 75)).grownBy w3 (Value.slice a3 k c3).ownBlock) := Lib.hid hg3; have HB3 : Hid (Below w.heap.size w w3) := Lib.hid (((HWX.out.trans (HB2.out.mono (by omega))).alloc (by omega) _).grown hg3 (by rw [alloc_size]; omega) (fun q hq => (HOWNX.out.lt q hq).1)); have HK3 := Lib.hid (blk_grown ((HBK.out.below HB2.out (by omega)).alloc (.cells #[.string ⟨t.toArray⟩, .slice a2 sf c2'] 75)) ((ownsRow_below HOWNX.out HB2.out).alloc _) hg3 (by decide)); have HBZ := Lib.hid (⟨(HQ.out w3 HB3.out).1, (HQ.out w3 HB3.out).2, HK3.out.cell 0, HK3.out.cell 1⟩ : w3.cell? ⟨p, 3, none⟩ = some (.slice (some ⟨b, 0, none⟩) n cn) ∧ w3.cell? ⟨b, k * 2, none⟩ = some (.string ⟨t.toArray⟩) ∧ w3.cell? ⟨wr.heap.size, 0, none⟩ = some (.slice ad li cd) ∧ w3.cell? ⟨wr.heap.size, 1, none⟩ = some (.int .i64 sf)); clear hown3 hg3 hat3)
          | fail))
        all_goals (
          go_wp2
          go_roundw
          case rel =>
            have hrow2 : w3.ownsRow w.heap.size 5 1 (.slice a2 sf c2') sf (dt.map B8) :=
              ((ownsRow_base_a HO2.out (by omega)).alloc _).kept HG3.out (own_ne (w := w2.alloc (.cells #[.string ⟨t.toArray⟩, .slice a2 sf c2'] 75)) (HO2.out.alloc _) ((ownsRow_below HOWNX.out HB2.out).alloc _) (by decide))
            refine ⟨k + 1, by omega, by go_num, ?_, HB3.out⟩
            rw [HST.out]
            refine FilesAt.snoc (vals := vals) (u := .slice a2 sf c2') (by rw [HVL.out, HIK.out]) (fun k' f u hf hu => ?_) (by rw [HIK.out]; exact HOWN3.out) (by show w3.ownsRow _ _ _ _ (List.length dt) _; rw [HDL.out]; exact hrow2)
            have h0 := ownsRow_below (HDAT.out k' f u hf hu) HBX.out
            have := ownsRow_below h0 HB2.out
            exact (this.alloc _).kept HG3.out (own_ne (w := w2.alloc (.cells #[.string ⟨t.toArray⟩, .slice a2 sf c2'] 75)) (this.alloc _) ((ownsRow_below HOWNX.out HB2.out).alloc _) (by decide))
          case measure => simp [intOf]; omega)
    · go_wp2
      go_ret
      have hkn : k = n := by omega
      have hk2 : S.safes.take k = S.safes := List.take_of_length_le (by rw [HIL.out]; omega)
      rw [hk2] at hown hdat
      refine ⟨_, rfl, ⟨vals, by rw [hvl, hkn, HIL.out], ?_, hdat⟩, hbel⟩
      rw [HIL.out, ← hkn]; exact hown
end Go.Proofs.YtdmcjomcbhdcbaaGreat
namespace Go.Proofs.YtdmcjomcbhdcbaaGreat
open Go.RowKit Go.Maps

/-- What the document's drive wants, from what the program's keeps. -/
theorem mok_of {S : Drv} {N : Nat} (h : S.Inv N) (hb : S.bodies.length ≤ 1099511627776) : MOk S where
  now := ⟨h.tnow, h.know, h.fnow⟩
  kept := ⟨h.tkept, h.kkept, h.fkept⟩
  snow := by have := h.snow; have := h.rooms; omega
  skept := by have := h.skept; have := h.rooms; omega
  pend := by have := h.pend; have := h.rooms; omega
  nb := hb
  rlt := fun s i hi => h.rlt i (refs_mem h.tnow hi)
  len := fun i => by have := h.len i; omega
theorem usedK_of {S : Drv} {N : Nat} (h : S.Inv N) : S.used = (usedK S (dents S.now) : Nat) ∧ usedK S (dents S.now) ≤ 1152921504606846976 := by
  have e := used_dents h
  refine ⟨e, ?_⟩
  have h1 := h.used
  have h2 := S.sum_le h.len (refs S.now)
  have h3 := refs_length h.tnow
  have h4 := h.snow
  have h5 := h.rooms
  have h6 : (refs S.now).length * 1073741824 ≤ N * 1073741824 := Nat.mul_le_mul_right _ (by omega)
  have h7 : N * 1073741824 ≤ 1073741824 * 1073741824 := Nat.mul_le_mul_right _ h5
  have h8 : (usedK S (dents S.now) : Int) = (S.sum (refs S.now) : Int) := by rw [← h1]; exact e.symm
  omega

theorem wappend_go {X X' : Wnd} {S : Drv} {s : Nm} {bs : List UInt8} {ins : Int} (h : X.struck true = (X', 0, ins)) : wappend X S s bs = (X', (S.append s bs).1, (S.append s bs).2) := by unfold wappend; rw [h]; exact if_pos rfl
theorem wappend_part {X X' : Wnd} {S : Drv} {s : Nm} {bs : List UInt8} {ins z : Int} (h : X.struck true = (X', z, ins)) (hz : z ≠ 0) (h2 : 0 < ins ∧ bs ≠ []) : wappend X S s bs = (X', (S.append s (bs.take ins.toNat)).1, z) := by unfold wappend; rw [h]; simp only; rw [if_neg hz, if_pos h2]
theorem wappend_no {X X' : Wnd} {S : Drv} {s : Nm} {bs : List UInt8} {ins z : Int} (h : X.struck true = (X', z, ins)) (hz : z ≠ 0) (h2 : ¬ (0 < ins ∧ bs ≠ [])) : wappend X S s bs = (X', S, z) := by unfold wappend; rw [h]; simp only; rw [if_neg hz, if_neg h2]

theorem dappend_nil (s : Nm) (v : Value) (w : World) (A : Option Addr) (n c : Nat) : Calls Tryz.prog 101 #[.pointer none, .string ⟨s.toArray⟩, .slice A n c] w fun e w' => e = .returned (.int .i64 1) ∧ w = w' := by
  go_enter Tryz.func101, Tryz.ntmps101
  go_wp2
  go_ret
  exact ⟨rfl, rfl⟩
set_option maxRecDepth 100000 in
set_option maxHeartbeats 4000000 in
theorem dappend_lt (q p : Nat) (X : Wnd) (S : Drv) {N : Nat} (F : Nat → Prop) (s : Nm) (A : Option Addr) (n c0 : Nat) (bs : List UInt8) (w : World) (hs : s.length ≤ maxLen) (hFl : ∀ k, F k → k < w.heap.size) (hd : DK w q p X S F) (hX : X.Ok) (hI : S.Inv N) (hS : MOk S)
    (hn : n = bs.length) (hnl : n ≤ 1099511627776) (hnc : n ≤ c0) (hr : Reads w w.heap.size 1 A n (bs.map B8)) (hA : ∀ ad, A = some ad → 0 < n → ¬F ad.block) :
    Calls Tryz.prog 101 #[.pointer (some ⟨q, 0, none⟩), .string ⟨s.toArray⟩, .slice A n c0] w fun e w' => e = .returned (.int .i64 (wappend X S s bs).2.2) ∧ DK w' q p (wappend X S s bs).1 (wappend X S s bs).2.1 (grow F w w') ∧ Touch F w w' := by
  have HASK := Lib.hid (dask_any q p X S F 2 n (by decide) (by omega) hX w hd)
  have HOK := Lib.hid hS
  have HR := Lib.hid (fun W (hW : Touch F w W) => hr.touch0 hW (Nat.le_refl _) hA)
  obtain ⟨hus, hub⟩ := usedK_of hI
  have hrm := hI.room
  have HAPP : Hid (∀ FM (W : World) (m : Nat) (ds : List UInt8) (c : Nat), Md W p S FM → m = ds.length → m ≤ 1099511627776 → Reads W W.heap.size 1 A m (ds.map B8) → Calls Tryz.prog 116 #[.pointer (some ⟨p, 0, none⟩), .string ⟨s.toArray⟩, .slice A m c] W fun e w' => e = .returned (.int .i64 (S.append s ds).2) ∧ Md w' p (S.append s ds).1 (grow FM W w') ∧ Touch FM W w') :=
    Lib.hid fun FM W m ds c hm h1 h2 h3 => mappend_any p S FM s A m c ds W hs hm hS hus hub hrm h1 h2 h3
  rw [show gmay 2 = true from rfl] at HASK
  have HN := Lib.hid hn
  obtain ⟨X', z, ins, hst⟩ : ∃ X' z ins, X.struck true = (X', z, ins) := ⟨_, _, _, rfl⟩
  by_cases hz : z = 0
  · subst hz
    rw [wappend_go hst]
    rw [hst] at HASK
    simp only at HASK ⊢
    obtain ⟨by_, hby⟩ : ∃ b, b = askB 2 ins n := ⟨_, rfl⟩
    rw [← hby] at HASK
    clear hd hX hS hst hby hr hA hI hus hub hrm hn
    unfold ansV at HASK
    obtain ⟨T, xe, hT⟩ : ∃ T xe, S.append s bs = (T, xe) := ⟨_, _, rfl⟩
    rw [hT]
    simp only
    have HT := Lib.hid hT
    clear hT
    go_enter Tryz.func101, Tryz.ntmps101
    go_wp2_with (first
      | (go_at_call 106; refine HASK.out.mono ?_; rintro e w1 ⟨rfl, hd1, ht1⟩; obtain ⟨y0, hq1⟩ := hd1.head; have HD1 := Lib.hid hd1; have HT1 := Lib.hid ht1; clear hd1 ht1)
      | (go_at_call 116; refine (DK.call (R := fun e _ => e = .returned (.int .i64 xe)) (T := T) (dk_mid HD1.out _) (fun FM hm => (by have := HAPP.out FM _ n bs c0 hm HN.out hnl ((((HR.out _ HT1.out).more HT1.out.size).alloc (Nat.le_refl _) _).more (by simp)); rw [HT.out] at this; exact this))).mono ?_; rintro e w2 ⟨rfl, hd2, ht2⟩; have HD2 := Lib.hid hd2; have HT2 := Lib.hid ht2; clear hd2 ht2))
    go_ret
    exact ⟨rfl, dk_end HD2.out HT1.out ((Below.refl _ w1).alloc (Nat.le_refl _) _) HT2.out⟩
  · rw [hst] at HASK
    simp only at HASK
    have hb : (z == 0) = false := by simpa using hz
    rw [hb] at HASK
    obtain ⟨by_, hby⟩ : ∃ b, b = askB 2 ins n := ⟨_, rfl⟩
    rw [← hby] at HASK
    by_cases hp : 0 < ins ∧ bs ≠ []
    · rw [wappend_part hst hz hp]
      simp only
      obtain ⟨m, hm⟩ : ∃ m : Nat, m = min ins.toNat n := ⟨_, rfl⟩
      have hnpos : 0 < n := by rw [hn]; exact List.length_pos_iff.2 hp.2
      have hbm : by_ = (m : Int) := by rw [hby, hm]; unfold askB; rw [if_pos ⟨rfl, by omega⟩]; omega
      subst hbm
      have hmn : m ≤ n := by omega
      have hm0 : 0 < m := by omega
      obtain ⟨ds, hds⟩ : ∃ ds, ds = bs.take ins.toNat := ⟨_, rfl⟩
      rw [← hds]
      have hdl : m = ds.length := by rw [hds, List.length_take, ← hn]; exact hm
      have htk : ds = bs.take m := by
        rw [hds, hm, hn]
        by_cases h : ins.toNat ≤ bs.length
        · rw [Nat.min_eq_left h]
        · rw [Nat.min_eq_right (by omega), List.take_of_length_le (Nat.le_refl _), List.take_of_length_le (by omega)]
      have HRM := Lib.hid (fun W (hW : Touch F w W) => by have := (HR.out W hW).cutTo hmn; rw [← List.map_take, ← htk] at this; exact this)
      have HDL := Lib.hid hdl
      clear hd hX hS hst hby hr hA hI hus hub hrm hn hds htk hdl hp hb hz hm
      unfold ansV at HASK
      obtain ⟨T, xe, hT⟩ : ∃ T xe, S.append s ds = (T, xe) := ⟨_, _, rfl⟩
      rw [hT]
      simp only
      have HT := Lib.hid hT
      clear hT
      go_enter Tryz.func101, Tryz.ntmps101
      go_wp2_with (go_at_call 106; refine HASK.out.mono ?_; rintro e w1 ⟨rfl, hd1, ht1⟩; obtain ⟨y0, hq1⟩ := hd1.head; have HD1 := Lib.hid hd1; have HT1 := Lib.hid ht1; clear hd1 ht1)
      refine wp_world fun W7 hW7 => ?_
      have HD7 : Hid (DK W7 q p X' S (grow F w w1)) := Lib.hid (by rw [hW7]; exact dk_mid HD1.out _)
      have HB7 : Hid (Blk W7 w1.heap.size 178 #[.bool false, .int .i64 m, .int .i64 z]) := Lib.hid (by rw [hW7]; exact Blk.new _ _ _)
      have HE7 : Hid (Below w1.heap.size w1 W7) := Lib.hid (by rw [hW7]; exact (Below.refl _ w1).alloc (Nat.le_refl _) _)
      have h7s : W7.heap.size = w1.heap.size + 1 := by rw [hW7]; simp
      have h1s : w.heap.size ≤ w1.heap.size := HT1.out.size
      have HNF : Hid (¬ grow F w w1 w1.heap.size) := Lib.hid (by rintro (h | h); (have := hFl _ h; omega); omega)
      have z0 : W7.cell? ⟨q, 0, none⟩ = some (.pointer (some ⟨p, 0, none⟩)) := HD7.out.head.1
      have z1 : W7.cell? ⟨w1.heap.size, 1, none⟩ = some (.int .i64 m) := HB7.out.cell 1
      clear hW7
      have hs0 : (0 : Int) ≤ (m : Int) := by omega
      have hs1 : (m : Int) ≤ (c0 : Int) := by omega
      go_region_held3 (fun w' => w'.cell? ⟨q, 0, none⟩ = some (.pointer (some ⟨p, 0, none⟩)) ∧ w'.cell? ⟨w1.heap.size, 1, none⟩ = some (.int .i64 m)) (first | go_keep | exact HQ2.out) ((first
        | (go_at_call 116; refine (DK.call (R := fun e _ => e = .returned (.int .i64 xe)) (T := T) (HD7.out.below (below_drew1 (Below.refl _ _))) (fun FM hm => (by have := HAPP.out FM W7.drew m ds c0 hm HDL.out (by omega) ((((HRM.out _ HT1.out).more h1s).below HE7.out).more (by show w1.heap.size ≤ W7.heap.size; omega)); rw [HT.out] at this; exact this))).mono ?_; rintro e w2 ⟨rfl, hd2, ht2⟩; have HD2 : Hid (DK w2 q p X' T (grow (grow F w w1) W7 w2)) := Lib.hid hd2; have HT2 : Hid (Touch (grow F w w1) W7 w2) := Lib.hid ⟨ht2.os, ht2.tape, ht2.output, ht2.size, ht2.block⟩; have HB2 := Lib.hid (HB7.out.touch HT2.out HNF.out); have HQ2 := Lib.hid (⟨hd2.head.1, HB2.out.cell 1⟩ : w2.cell? ⟨q, 0, none⟩ = some (.pointer (some ⟨p, 0, none⟩)) ∧ w2.cell? ⟨w1.heap.size, 1, none⟩ = some (.int .i64 m)); clear hd2 ht2)
        | fail))
      all_goals
        refine exit_world fun V hV => ?_
        have HDV : Hid (DK V q p X' T (grow (grow F w w1) W7 V)) := Lib.hid (by rw [hV]; exact HD2.out)
        have HTV : Hid (Touch (grow F w w1) W7 V) := Lib.hid (by rw [hV]; exact HT2.out)
        have z2 : V.cell? ⟨w1.heap.size, 2, none⟩ = some (.int .i64 z) := by rw [hV]; exact HB2.out.cell 2
        clear hV
        go_wp2
        go_ret
        exact ⟨rfl, dk_end HDV.out HT1.out HE7.out HTV.out⟩
    · rw [wappend_no hst hz hp]
      simp only
      have hb0 : by_ = 0 := by
        rw [hby]; unfold askB
        by_cases h0 : 0 ≤ ins
        · rw [if_pos ⟨rfl, h0⟩]
          by_cases h1 : ins = 0
          · omega
          · have hbe : bs = [] := Classical.not_not.1 fun h => hp ⟨by omega, h⟩
            rw [hbe] at hn; simp at hn; omega
        · rw [if_neg (fun h => h0 h.2)]
      subst hb0
      clear hd hX hS hst hby hr hA hI hus hub hrm hn hp hb hz
      unfold ansV at HASK
      go_enter Tryz.func101, Tryz.ntmps101
      go_wp2_with (go_at_call 106; refine HASK.out.mono ?_; rintro e w1 ⟨rfl, hd1, ht1⟩; obtain ⟨y0, hq1⟩ := hd1.head; have HD1 := Lib.hid hd1; have HT1 := Lib.hid ht1; clear hd1 ht1)
      go_ret
      exact ⟨rfl, (dk_mid HD1.out _).mono (fun k hk => (by rcases hk with hk | hk; exact .inl hk; exact .inr (by simp; omega))), HT1.out.then_ (Touch.alloc _ _)⟩
theorem dappend_any (q p : Nat) (X : Wnd) (S : Drv) {N : Nat} (F : Nat → Prop) (s : Nm) (A : Option Addr) (n c0 : Nat) (bs : List UInt8) (w : World) (hs : s.length ≤ maxLen) (hd : DK w q p X S F) (hX : X.Ok) (hI : S.Inv N) (hS : MOk S)
    (hn : n = bs.length) (hnl : n ≤ 1099511627776) (hnc : n ≤ c0) (hr : Reads w w.heap.size 1 A n (bs.map B8)) (hA : ∀ ad, A = some ad → 0 < n → ¬F ad.block) :
    Calls Tryz.prog 101 #[.pointer (some ⟨q, 0, none⟩), .string ⟨s.toArray⟩, .slice A n c0] w fun e w' => e = .returned (.int .i64 (wappend X S s bs).2.2) ∧ DK w' q p (wappend X S s bs).1 (wappend X S s bs).2.1 (grow F w w') ∧ Touch F w w' := by
  refine (dappend_lt q p X S (fun k => F k ∧ k < w.heap.size) s A n c0 bs w hs (fun k h => h.2) hd.lt hX hI hS hn hnl hnc hr fun ad e h0 h => hA ad e h0 h.1).mono ?_
  rintro e w' ⟨he, h1, h2⟩
  exact ⟨he, h1.mono fun k hk => by (rcases hk with hk | hk; exact .inl hk.1; exact .inr hk), h2.mono fun k _ hk => hk.1⟩
end Go.Proofs.YtdmcjomcbhdcbaaGreat
namespace Go.Proofs.YtdmcjomcbhdcbaaGreat
open Go.RowKit Go.Maps

theorem wlist_any (q p : Nat) (X : Wnd) (S : Drv) (F : Nat → Prop)  (w : World) (hn : size S.now ≤ 2199023255552) (h : WD w q p X S F) (hX : X.Ok) (hS : S.Small) :
    Calls Tryz.prog 164 #[.pointer (some ⟨q, 0, none⟩)] w fun e w' =>
      ∃ v, e = .returned (.tuple #[v, .int .i64 (wread X ((dnames S.now, (0 : Int)))).2.2]) ∧ w'.ownsRow w.heap.size 9 1 v (wread X ((dnames S.now, (0 : Int)))).2.1.length ((wread X ((dnames S.now, (0 : Int)))).2.1.map strV) ∧
        WD w' q p (wread X ((dnames S.now, (0 : Int)))).1 S F ∧ Touch F w w' := by
  obtain ⟨FW, FD, hA, hF⟩ := h
  have HA := Lib.hid hA
  have HFF := Lib.hid hF
  have HK := Lib.hid (struck_any q _ X FW false w hA.wn hX)
  have HSM := Lib.hid hS
  clear hA hX hS
  by_cases he : (X.struck false).2.1 = 0
  · have hr : wread X ((dnames S.now, (0 : Int))) = ((X.struck false).1, ((dnames S.now, (0 : Int))).1, ((dnames S.now, (0 : Int))).2) := by unfold wread; rw [if_pos he]
    have HR := Lib.hid hr; clear hr
    rw [HR.out]
    have HE := Lib.hid he; clear he
    go_enter Tryz.func164, Tryz.ntmps164
    go_wp2_with (first
      | (go_at_call 83; refine HK.out.mono ?_; rintro e w1 ⟨rfl, hw1, ht1⟩; rw [HE.out]; have q0 : w1.cell? ⟨q, 0, none⟩ = some (.pointer (some ⟨p, 0, none⟩)) := head_cell hw1; have HW1 := Lib.hid hw1; have HT1 := Lib.hid ht1; have hsz1 := ht1.size; have HA1 : Hid (Apart w1 q p _ S FW FD) := Lib.hid (HA.out.wound hw1 ht1); clear hw1 ht1; obtain ⟨addr, hda⟩ := HA1.out.dr; have HDA := Lib.hid hda; clear hda)
      | (go_at_call 171; refine (list_any p S addr FD w1 HDA.out hn).mono ?_; rintro e w2 ⟨v, rfl, ho, hb⟩; have HO := Lib.hid ho; have HB := Lib.hid hb; clear ho hb))
    go_ret2
    exact ⟨v, rfl, ownsRow_base_a HO.out hsz1, read_steps HA.out HFF.out HW1.out HT1.out HB.out⟩
  · obtain ⟨z, hz⟩ : ∃ z, z = (X.struck false).2.1 := ⟨_, rfl⟩
    have hr : wread X ((dnames S.now, (0 : Int))) = ((X.struck false).1, [], z) := by unfold wread; rw [if_neg he, hz]
    have HR := Lib.hid hr; clear hr
    rw [HR.out]
    have HZ := Lib.hid hz
    have hne : (z != 0) = true := by rw [hz]; simpa using he
    clear he hz
    go_enter Tryz.func164, Tryz.ntmps164
    go_wp2_with (go_at_call 83; refine HK.out.mono ?_; rintro e w1 ⟨rfl, hw1, ht1⟩; rw [← HZ.out]; have HW1 := Lib.hid hw1; have HT1 := Lib.hid ht1; clear hw1 ht1)
    go_ret2
    exact ⟨_, rfl, World.ownsRow_nil _ _ _ _, wound_step0 HA.out HFF.out HW1.out HT1.out⟩

theorem wread_go {α : Type} {X X' : Wnd} {ins : Int} {r : List α × Int} (h : X.struck false = (X', 0, ins)) : wread X r = (X', r.1, r.2) := by unfold wread; rw [h]; exact if_pos rfl
theorem wread_no {α : Type} {X X' : Wnd} {ins z : Int} {r : List α × Int} (h : X.struck false = (X', z, ins)) (hz : z ≠ 0) : wread X r = (X', [], z) := by unfold wread; rw [h]; exact if_neg hz
theorem dk_read {w w1 W w' : World} {q p : Nat} {X : Wnd} {S : Drv} {F : Nat → Prop} (h : DK w1 q p X S (grow F w w1)) (ht1 : Touch F w w1) (hb : Below w1.heap.size w1 W) (hb2 : Below W.heap.size W w') : DK w' q p X S (grow F w w') ∧ Touch F w w' := by
  have h1 := ht1.size
  have h2 := hb.size
  have h3 := hb2.size
  refine ⟨((h.below hb).below hb2).mono fun k hk => ?_, (ht1.then_ (Touch.of_below hb)).then_ (Touch.of_below hb2)⟩
  rcases hk with hk | hk
  · exact .inl hk
  · exact .inr (by omega)
theorem dread_nil (s : Nm) (w : World) : Calls Tryz.prog 72 #[.pointer none, .string ⟨s.toArray⟩] w fun e w' => e = .returned (.tuple #[.slice none 0 0, .int .i64 1]) ∧ w = w' := by
  go_enter Tryz.func72, Tryz.ntmps72
  go_wp2
  go_ret2
  exact ⟨rfl, rfl⟩
set_option maxRecDepth 100000 in
set_option maxHeartbeats 4000000 in
theorem dread_any (q p : Nat) (X : Wnd) (S : Drv) (F : Nat → Prop) (s : Nm) (w : World) (hs : s.length ≤ maxLen) (hd : DK w q p X S F) (hX : X.Ok) (hS : MOk S) :
    Calls Tryz.prog 72 #[.pointer (some ⟨q, 0, none⟩), .string ⟨s.toArray⟩] w fun e w' => ∃ v, e = .returned (.tuple #[v, .int .i64 (wread X (S.read s)).2.2]) ∧ w'.ownsRow w.heap.size 5 1 v (wread X (S.read s)).2.1.length ((wread X (S.read s)).2.1.map B8) ∧ DK w' q p (wread X (S.read s)).1 S (grow F w w') ∧ Touch F w w' := by
  have HASK := Lib.hid (dask_any q p X S F 3 0 (by decide) (by decide) hX w hd)
  have HOK := Lib.hid hS
  rw [show gmay 3 = false from rfl] at HASK
  obtain ⟨X', z, ins, hst⟩ : ∃ X' z ins, X.struck false = (X', z, ins) := ⟨_, _, _, rfl⟩
  obtain ⟨by_, hby⟩ : ∃ b, b = askB 3 ins 0 := ⟨_, rfl⟩
  by_cases hz : z = 0
  · subst hz
    rw [wread_go hst]
    rw [hst] at HASK
    simp only at HASK ⊢
    rw [← hby] at HASK
    clear hd hX hS hst hby
    unfold ansV at HASK
    go_enter Tryz.func72, Tryz.ntmps72
    go_wp2_with (first
      | (go_at_call 106; refine HASK.out.mono ?_; rintro e w1 ⟨rfl, hd1, ht1⟩; obtain ⟨y0, hq1⟩ := hd1.head; have hsz1 := ht1.size; have HD1 := Lib.hid hd1; have HT1 := Lib.hid ht1; obtain ⟨FG, FM, hk, hf⟩ := dk_mid hd1 (.cells #[.bool (0 == 0), .int .i64 by_, .int .i64 0] 178); have HMD := Lib.hid hk.md; clear hd1 ht1 hk hf)
      | (go_at_call 107; refine (mread_any p S FM s _ hs HMD.out HOK.out).mono ?_; rintro e w2 ⟨v, rfl, ho, hb⟩; have HO := Lib.hid ho; have HB := Lib.hid hb; clear ho hb))
    go_ret2
    exact ⟨v, rfl, ownsRow_base_a HO.out (by simp; omega), dk_read HD1.out HT1.out ((Below.refl _ w1).alloc (Nat.le_refl _) _) HB.out⟩
  · rw [wread_no hst hz]
    rw [hst] at HASK
    simp only at HASK ⊢
    have hb : (z == 0) = false := by simpa using hz
    rw [hb] at HASK
    rw [← hby] at HASK
    clear hd hX hS hst hby hb hz
    unfold ansV at HASK
    go_enter Tryz.func72, Tryz.ntmps72
    go_wp2_with (go_at_call 106; refine HASK.out.mono ?_; rintro e w1 ⟨rfl, hd1, ht1⟩; obtain ⟨y0, hq1⟩ := hd1.head; have HD1 := Lib.hid hd1; have HT1 := Lib.hid ht1; clear hd1 ht1)
    go_quiet (fail)
    refine exit_world fun V hV => ?_
    have HBV : Hid (Below w1.heap.size w1 V) := Lib.hid (by rw [hV]; exact below_drewN ((Below.refl _ w1).alloc (Nat.le_refl _) _) _)
    clear hV
    go_wp2
    go_ret2
    exact ⟨_, rfl, World.ownsRow_nil _ _ _ _, dk_read HD1.out HT1.out HBV.out (Below.refl _ _)⟩
theorem dlist_nil  (w : World) : Calls Tryz.prog 73 #[.pointer none] w fun e w' => e = .returned (.tuple #[.slice none 0 0, .int .i64 1]) ∧ w = w' := by
  go_enter Tryz.func73, Tryz.ntmps73
  go_wp2
  go_ret2
  exact ⟨rfl, rfl⟩
set_option maxRecDepth 100000 in
set_option maxHeartbeats 4000000 in
theorem dlist_any (q p : Nat) (X : Wnd) (S : Drv) (F : Nat → Prop)  (w : World)  (hd : DK w q p X S F) (hX : X.Ok) (hS : MOk S) :
    Calls Tryz.prog 73 #[.pointer (some ⟨q, 0, none⟩)] w fun e w' => ∃ v, e = .returned (.tuple #[v, .int .i64 (wread X (dnames S.now, (0 : Int))).2.2]) ∧ w'.ownsRow w.heap.size 9 1 v (wread X (dnames S.now, (0 : Int))).2.1.length ((wread X (dnames S.now, (0 : Int))).2.1.map strV) ∧ DK w' q p (wread X (dnames S.now, (0 : Int))).1 S (grow F w w') ∧ Touch F w w' := by
  have HASK := Lib.hid (dask_any q p X S F 3 0 (by decide) (by decide) hX w hd)
  have HOK := Lib.hid hS
  rw [show gmay 3 = false from rfl] at HASK
  obtain ⟨X', z, ins, hst⟩ : ∃ X' z ins, X.struck false = (X', z, ins) := ⟨_, _, _, rfl⟩
  obtain ⟨by_, hby⟩ : ∃ b, b = askB 3 ins 0 := ⟨_, rfl⟩
  by_cases hz : z = 0
  · subst hz
    rw [wread_go hst]
    rw [hst] at HASK
    simp only at HASK ⊢
    rw [← hby] at HASK
    clear hd hX hS hst hby
    unfold ansV at HASK
    go_enter Tryz.func73, Tryz.ntmps73
    go_wp2_with (first
      | (go_at_call 106; refine HASK.out.mono ?_; rintro e w1 ⟨rfl, hd1, ht1⟩; obtain ⟨y0, hq1⟩ := hd1.head; have hsz1 := ht1.size; have HD1 := Lib.hid hd1; have HT1 := Lib.hid ht1; obtain ⟨FG, FM, hk, hf⟩ := dk_mid hd1 (.cells #[.bool (0 == 0), .int .i64 by_, .int .i64 0] 178); have HMD := Lib.hid hk.md; clear hd1 ht1 hk hf)
      | (go_at_call 108; refine (mlist_any p S FM _ HMD.out HOK.out.snow).mono ?_; rintro e w2 ⟨v, rfl, ho, hb⟩; have HO := Lib.hid ho; have HB := Lib.hid hb; clear ho hb))
    go_ret2
    exact ⟨v, rfl, ownsRow_base_a HO.out (by simp; omega), dk_read HD1.out HT1.out ((Below.refl _ w1).alloc (Nat.le_refl _) _) HB.out⟩
  · rw [wread_no hst hz]
    rw [hst] at HASK
    simp only at HASK ⊢
    have hb : (z == 0) = false := by simpa using hz
    rw [hb] at HASK
    rw [← hby] at HASK
    clear hd hX hS hst hby hb hz
    unfold ansV at HASK
    go_enter Tryz.func73, Tryz.ntmps73
    go_wp2_with (go_at_call 106; refine HASK.out.mono ?_; rintro e w1 ⟨rfl, hd1, ht1⟩; obtain ⟨y0, hq1⟩ := hd1.head; have HD1 := Lib.hid hd1; have HT1 := Lib.hid ht1; clear hd1 ht1)
    go_quiet (fail)
    refine exit_world fun V hV => ?_
    have HBV : Hid (Below w1.heap.size w1 V) := Lib.hid (by rw [hV]; exact below_drewN ((Below.refl _ w1).alloc (Nat.le_refl _) _) _)
    clear hV
    go_wp2
    go_ret2
    exact ⟨_, rfl, World.ownsRow_nil _ _ _ _, dk_read HD1.out HT1.out HBV.out (Below.refl _ _)⟩
end Go.Proofs.YtdmcjomcbhdcbaaGreat

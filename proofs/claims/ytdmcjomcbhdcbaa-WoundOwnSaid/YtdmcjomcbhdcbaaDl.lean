/- Contracts of the drive: Safe. -/
import Derived.Test.YtdmcjomcbhdcbaaDk
namespace Go.Proofs.Ytdmcjomcbhdcbaa
open Go.RowKit Go.Maps

theorem Reads.cutTo {w : World} {B n : Nat} {A : Option Addr} {xs : List Value} {m : Nat} (h : Reads w B 1 A n xs) (hm : m ≤ n) : Reads w B 1 A m (xs.take m) := by
  refine ⟨by rw [List.length_take, h.1]; omega, fun h0 => ?_⟩
  obtain ⟨ad, e, hb, hc⟩ := h.2 (by omega)
  refine ⟨ad, e, hb, fun j u hu => hc j u ?_⟩
  rw [List.getElem?_take] at hu
  split at hu
  · exact hu
  · cases hu

theorem below_of_drew {B : Nat} {w w' : World} (h : Below B w.drew w') : Below B w w' := ⟨h.os, h.tape, h.output, h.size, h.block⟩

theorem safe_nil (w : World) : Calls Try.prog 47 #[.pointer none] w fun e w' => e = .returned (.slice none 0 0) ∧ w = w' := by
  go_enter Try.func47, Try.ntmps47
  go_wp2
  go_ret
  exact ⟨rfl, rfl⟩

set_option maxRecDepth 100000 in
set_option maxHeartbeats 1000000 in
theorem safe_any (p : Nat) (S : Drv) (addr : List Nat) (F : Nat → Prop) (w : World) (hd : DrA w p S addr F) (hS : S.Small) (hfull : Full S.kept) (hsf : ∀ i, (S.body i).safe ≤ S.len i) :
    Calls Try.prog 47 #[.pointer (some ⟨p, 0, none⟩)] w fun e w' =>
      ∃ v, e = .returned v ∧ FilesAt w' w.heap.size v S.safes ∧ Below w.heap.size w w' := by
  obtain ⟨L, rfl, hD, _⟩ := hd
  have h2 : w.cell? ⟨p, 3, none⟩ = some (.map (some L.keptM)) := hD.head.cell 3
  have HN := Lib.hid hD.kept
  have HH := Lib.hid (dnames_has hD.kept)
  have HS := Lib.hid hS
  have HFU := Lib.hid hfull
  have HD := Lib.hid hD
  have HSF := Lib.hid hsf; clear hsf
  have hnl := hS.kept
  rw [← dnames_length] at hnl
  generalize hlen : (dnames S.kept).length = len at hnl
  have HL := Lib.hid hlen
  have hsn : size S.kept ≤ 2199023255552 := by have := hS.kept; omega
  have HSN := Lib.hid hsn
  clear hD hS hfull hlen hsn
  go_enter Try.func47, Try.ntmps47
  go_wp2_with (go_at_call 72; refine (names_any _ _ _ _ HN.out HSN.out).mono ?_; rintro e w1 ⟨v, rfl, ho, hb⟩; rw [HL.out] at ho; obtain ⟨a, c, rfl, _⟩ := own_shape ho; have HO := Lib.hid ho; have HB := Lib.hid hb; have hp1 : w1.cell? ⟨p, 3, none⟩ = some (.map (some L.keptM)) := (hb.cell (HD.out.head.lt)).trans h2; clear ho hb)
  have hsz1 : w.heap.size ≤ w1.heap.size := HB.out.size
  go_loopw [3, 15] (fun s t wr => ∃ k : Nat, k ≤ len ∧ t = .int .i64 k ∧ FilesAt wr w1.heap.size s (S.safes.take k) ∧ Below w1.heap.size w1 wr) (fun _ t _ => len - (intOf t).toNat)
  case atStart => exact ⟨0, Nat.zero_le _, rfl, FilesAt.nil _ _, Below.refl _ _⟩
  case round =>
    obtain ⟨k, hk, rfl, ⟨vals, hvl, hown, hdat⟩, hbk⟩ := hrel
    have hil : S.safes.length = len := by rw [← HL.out]; simp [Drv.safes]
    have hik : (S.safes.take k).length = k := by rw [List.length_take, hil]; omega
    rw [hik] at hown hvl
    have hsr : w1.heap.size ≤ wr.heap.size := hbk.size
    have hbw : Below w.heap.size w wr := HB.out.trans (hbk.mono hsz1)
    have hDr : DrvAt wr p S L := HD.out.keep fun q hq => hbw.block q (HD.out.foot_lt hq)
    obtain ⟨a3, c3, rfl, _⟩ := own_shape hown
    by_cases hlt : k < len
    · obtain ⟨nm, hnm⟩ : ∃ s, (dnames S.kept)[k]? = some s := ⟨_, List.getElem?_eq_getElem (by rw [HL.out]; exact hlt)⟩
      obtain ⟨hn1, i, hg⟩ := HFU.out nm (HH.out nm (List.mem_of_getElem? hnm))
      obtain ⟨g, cap, hv, _, hglt⟩ := HO.out.form (by omega)
      have ha : a = some ⟨g, 0, none⟩ := by injection hv
      subst ha
      have x0 : wr.cell? ⟨g, k, none⟩ = some (.string ⟨nm.toArray⟩) := by
        have := HO.out.cells (g := g) rfl k (strV nm) (by rw [List.getElem?_map, hnm]; rfl)
        rw [hbk.cell (p := ⟨g, k, none⟩) hglt]; simpa [add_plain, strV] using this
      have x2 : wr.cell? ⟨p, 3, none⟩ = some (.map (some L.keptM)) := hDr.head.cell 3
      have hl := hDr.kept.lookup ⟨nm.toArray⟩ (by show nm.toArray.size ≤ maxLen; simp [maxLen]; omega)
      have he : (⟨nm.toArray⟩ : ByteArray).data.toList = nm := by simp
      rw [he, hg] at hl
      simp only [ptrO] at hl
      have hib : i < S.bodies.length := by rw [← hDr.la]; exact hDr.kept.dget_lt nm (by unfold maxLen; omega) hg
      obtain ⟨ai, ci, hvi, hcc⟩ := own_shape (hDr.data i hib)
      have hci : wr.cell? ⟨adrOf L.addr i, 0, none⟩ = some (.slice ai (S.len i) ci) := by have := (hDr.body i hib).cell 0; rw [hvi] at this; exact this
      have hsafe : (S.body i).safe ≤ S.len i := HSF.out i
      obtain ⟨m, hm⟩ : ∃ m, m = (S.body i).safe := ⟨_, rfl⟩
      have hc1 : wr.cell? ⟨adrOf L.addr i, 1, none⟩ = some (.int .i64 m) := by rw [hm]; exact (hDr.body i hib).cell 1
      rw [← hm] at hsafe
      have HRD := Lib.hid ((reads_own hvi (hDr.data i hib)).cutTo hsafe)
      rw [← List.map_take] at HRD
      have hleni := HS.out.len i
      have HM := Lib.hid hm
      have hmc : m ≤ ci := by omega
      have hst : S.safes.take (k + 1) = S.safes.take k ++ [(nm, (S.body i).data.take (S.body i).safe)] := by
        rw [List.take_add_one]
        have : S.safes[k]? = some (nm, (S.body i).data.take (S.body i).safe) := by
          unfold Drv.safes; rw [List.getElem?_map, hnm]; simp [Drv.at_, hg]
        rw [this]; rfl
      have HST := Lib.hid hst
      have HOWN := Lib.hid hown
      have HDAT := Lib.hid hdat
      have HVL := Lib.hid hvl
      have HBK := Lib.hid hbk
      have HIK := Lib.hid hik
      clear hown hdat hvl hbk hbw hDr hnm hg hv he hvi hst hik hil hm
      obtain ⟨i118, hi118, hz0, hz1, hz2⟩ := info_parts fileInfo
      go_wp2
      have hm63 : k + 1 ≤ maxLen := by simp only [maxLen]; omega
      have HM63 := Lib.hid hm63; clear hm63
      have hb2 : (k + 1) * 40 ≤ 140737488355328 := by omega
      have HB40 := Lib.hid hb2; clear hb2
      have hmb : m ≤ 140737488355328 := by omega
      have HMB := Lib.hid hmb; clear hmb
      go_region_law (first
        | (go_simp; go_at_call 73; go_loud (refine (clone_any ai m ci _ wr.drew wr.heap.size HRD.out.drew HMB.out).mono ?_); rintro e w2 ⟨v2, rfl, ho2, hb2⟩; obtain ⟨a2, c2, rfl, _⟩ := own_shape ho2; have HO2 : Hid (w2.ownsRow wr.heap.size 5 1 (.slice a2 m c2) m ((List.take m (S.body i).data).map B8)) := Lib.hid ho2; have HB2 : Hid (Below wr.heap.size wr.drew w2) := Lib.hid hb2; have hs2 : wr.heap.size ≤ w2.heap.size := hb2.size; clear ho2 hb2)
        | (go_loud (refine step_append_any _ rfl (.tmp 25) (.tmp 38) 39 rfl w1.heap.size 118 i118 _ 2 40 Try.underlying39 hi118 hz0 hz1 hz2 rfl (by omega) _ k _ rfl ((ownsRow_below HOWN.out (below_of_drew HB2.out)).alloc _) (w2.heap.size + 1) (some ⟨w2.heap.size, 0, none⟩) 1 1 [.string ⟨nm.toArray⟩, .slice a2 m c2] rfl (by exact reads_blk (t := 118) (blk_last _ _ _ _ rfl) (by omega) rfl) (by intro u hu; simp at hu; rcases hu with rfl | rfl <;> rfl) HM63.out HB40.out (by rw [alloc_size]; omega) ?_); intro v3 w3 hown3 hg3 hat3; obtain ⟨a4, c4, rfl, _⟩ := own_shape hown3; have HOWN3 := Lib.hid hown3; have HG3 : Hid ((w2.alloc (.cells #[.string ⟨nm.toArray⟩, .slice a2 m c2] 118)).grownBy w3 (Value.slice a3 k c3).ownBlock) := Lib.hid hg3; have HAT3 := Lib.hid hat3; clear hown3 hg3 hat3))
      all_goals (
        go_wp2
        go_roundw
        case rel =>
          have hdl : (List.take m (S.body i).data).length = m := by
            have : (S.body i).data.length = S.len i := rfl
            rw [List.length_take, this]; omega
          have HB3 : Hid (Below wr.heap.size wr w2) := below_of_drew HB2.out
          have hrow2 : w3.ownsRow w1.heap.size 5 1 (.slice a2 m c2) m ((List.take m (S.body i).data).map B8) :=
            ((ownsRow_base_a HO2.out hsr).alloc _).kept HG3.out (own_ne (w := w2.alloc (.cells #[.string ⟨nm.toArray⟩, .slice a2 m c2] 118)) (HO2.out.alloc _) ((ownsRow_below HOWN.out HB3.out).alloc _) (by decide))
          refine ⟨k + 1, by omega, by go_num, ?_, ?_⟩
          · rw [HST.out]
            refine FilesAt.snoc (vals := vals) (u := .slice a2 m c2) (by rw [HVL.out, HIK.out]) (fun k' f u hf hu => ?_) (by rw [HIK.out]; exact HOWN3.out) (by rw [← HM.out]; show w3.ownsRow _ _ _ _ (List.take m (S.body i).data).length _; rw [hdl]; exact hrow2)
            have := ownsRow_below (HDAT.out k' f u hf hu) HB3.out
            exact (this.alloc _).kept HG3.out (own_ne (w := w2.alloc (.cells #[.string ⟨nm.toArray⟩, .slice a2 m c2] 118)) (this.alloc _) ((ownsRow_below HOWN.out HB3.out).alloc _) (by decide))
          · have t1 : Below w1.heap.size w1 w2 := HBK.out.trans (HB3.out.mono hsr)
            exact (t1.alloc (by omega) _).grown HG3.out (by rw [alloc_size]; omega) (fun q hq => (HOWN.out.lt q hq).1)
        case measure => simp [intOf]; omega)
    · have hkl : k = len := by omega
      subst hkl
      go_wp2
      go_ret
      refine ⟨_, rfl, ?_, hbw⟩
      have : S.safes.take k = S.safes := List.take_of_length_le (by omega)
      rw [this] at hown hdat
      exact FilesAt.base ⟨vals, by omega, by rw [hil]; exact hown, hdat⟩ hsz1
end Go.Proofs.Ytdmcjomcbhdcbaa

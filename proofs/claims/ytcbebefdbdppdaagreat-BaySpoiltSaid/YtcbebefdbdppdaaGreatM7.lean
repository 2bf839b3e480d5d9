/- Lists of files as answers of a drive: their place in memory; names of a directory; Image.; Contracts of the drive: Safe.; The plain model of a wound, beside its drive. -/
import Derived.Test.YtcbebefdbdppdaaGreatM6
namespace Go.Proofs.YtcbebefdbdppdaaGreat
open Go.RowKit Go.Maps

/-- Every name of a directory is short and leads to a body. -/
def Full (D : Dir) : Prop := ∀ s, has D (key s) = true → s.length ≤ 1024 ∧ ∃ i, dget D s = some i

theorem alloc_size (w : World) (o : Obj) : (w.alloc o).heap.size = w.heap.size + 1 := by simp

theorem dnames_has {w : World} {addr : List Nat} {b : Nat} {D : Dir} (h : DirAt w addr b D) : ∀ x ∈ dnames D, has D (key x) = true := by
  intro x hx
  rw [dnames, List.mem_mergeSort] at hx
  obtain ⟨es, rfl, hko⟩ := World.ownsMap.keysOf h
  obtain ⟨p, hp, rfl⟩ := List.mem_map.1 hx
  obtain ⟨v, hv⟩ := hko p hp
  obtain ⟨y, _, hy, _⟩ := Maps.keyOf_str Tryz.underlying9 hv
  rw [has_eq, List.any_eq_true]
  exact ⟨p, hp, by rw [hy]; simp [Lit.sameKey, strOf, key]⟩

theorem dnames_length (D : Dir) : (dnames D).length = size D := by
  rw [dnames, (List.mergeSort_perm _ _).length_eq]
  cases D <;> simp [strKeys, size]

abbrev File := Nm × List UInt8
def fileCells (fs : List File) (vals : List Value) : List Value := (fs.zip vals).flatMap fun x => [strV x.1.1, x.2]
def FilesAt (w : World) (base : Nat) (v : Value) (fs : List File) : Prop :=
  ∃ vals : List Value, vals.length = fs.length ∧ w.ownsRow base 171 2 v fs.length (fileCells fs vals) ∧ ∀ (k : Nat) (f : File) (u : Value), fs[k]? = some f → vals[k]? = some u → w.ownsRow base 5 1 u f.2.length (f.2.map B8)

theorem ownsRow_below {w w' : World} {base : Nat} {e : TypeId} {size n : Nat} {v : Value} {xs : List Value} (h : w.ownsRow base e size v n xs) (hb : Below w.heap.size w w') : w'.ownsRow base e size v n xs :=
  ownsRow_keep h fun k hk => hb.block k (h.lt k hk).2
theorem FilesAt.below {w w' : World} {base : Nat} {v : Value} {fs : List File} (h : FilesAt w base v fs) (hb : Below w.heap.size w w') : FilesAt w' base v fs := by
  obtain ⟨vals, hl, ho, hd⟩ := h
  exact ⟨vals, hl, ownsRow_below ho hb, fun k f u hf hu => ownsRow_below (hd k f u hf hu) hb⟩
theorem FilesAt.nil (w : World) (base : Nat) : FilesAt w base (.slice none 0 0) [] := ⟨[], rfl, World.ownsRow_nil _ _ _ _, fun k f u hf => by simp at hf⟩
theorem FilesAt.base {w : World} {base base' : Nat} {v : Value} {fs : List File} (h : FilesAt w base v fs) (hb : base' ≤ base) : FilesAt w base' v fs := by
  obtain ⟨vals, hl, ho, hd⟩ := h
  exact ⟨vals, hl, ownsRow_base_a ho hb, fun k f u hf hu => ownsRow_base_a (hd k f u hf hu) hb⟩

theorem fileCells_snoc (fs : List File) (vals : List Value) (f : File) (u : Value) (h : vals.length = fs.length) : fileCells (fs ++ [f]) (vals ++ [u]) = fileCells fs vals ++ [strV f.1, u] := by
  unfold fileCells
  rw [List.zip_append h.symm]; simp

/-- One file more: behind the law on append. -/
theorem FilesAt.snoc {w1 : World} {base : Nat} {v1 : Value} {fs : List File} {f : File} {u : Value} {vals : List Value} (hl : vals.length = fs.length)
    (hd : ∀ (k : Nat) (f : File) (u : Value), fs[k]? = some f → vals[k]? = some u → w1.ownsRow base 5 1 u f.2.length (f.2.map B8))
    (ho : w1.ownsRow base 171 2 v1 (fs.length + 1) (fileCells fs vals ++ [strV f.1, u])) (hu : w1.ownsRow base 5 1 u f.2.length (f.2.map B8)) : FilesAt w1 base v1 (fs ++ [f]) := by
  refine ⟨vals ++ [u], by simp [hl], by rw [fileCells_snoc _ _ _ _ hl, List.length_append]; exact ho, fun k g t hg ht => ?_⟩
  rcases Nat.lt_trichotomy k fs.length with h | h | h
  · rw [List.getElem?_append_left h] at hg
    rw [List.getElem?_append_left (by omega)] at ht
    exact hd k g t hg ht
  · subst h
    rw [List.getElem?_append_right (Nat.le_refl _)] at hg
    rw [← hl, List.getElem?_append_right (Nat.le_refl _)] at ht
    simp at hg ht; subst hg; subst ht; exact hu
  · rw [List.getElem?_eq_none (by simp; omega)] at hg; cases hg

namespace Drv
def at_ (S : Drv) (D : Dir) (s : Nm) : Body := S.body ((dget D s).getD 0)
def image (S : Drv) : List File := (dnames S.now).map fun s => (s, (S.at_ S.now s).data)
def safes (S : Drv) : List File := (dnames S.kept).map fun s => (s, (S.at_ S.kept s).data.take (S.at_ S.kept s).safe)
end Drv

theorem fileInfo : (Tryz.prog.info? 171).map (fun i => (i.zero, i.size, i.bytes)) = some (some (.agg #[.string ⟨#[]⟩, .slice none 0 0]), 2, 40) := by kernel_rfl

theorem image_nil (w : World) : Calls Tryz.prog 30 #[.pointer none] w fun e w' => e = .returned (.slice none 0 0) ∧ w = w' := by
  go_enter Tryz.func30, Tryz.ntmps30
  go_wp2
  go_ret
  exact ⟨rfl, rfl⟩

set_option maxRecDepth 100000 in
set_option maxHeartbeats 1000000 in
theorem image_any (p : Nat) (S : Drv) (addr : List Nat) (F : Nat → Prop) (w : World) (hd : DrA w p S addr F) (hS : S.Small) (hfull : Full S.now) :
    Calls Tryz.prog 30 #[.pointer (some ⟨p, 0, none⟩)] w fun e w' =>
      ∃ v, e = .returned v ∧ FilesAt w' w.heap.size v S.image ∧ Below w.heap.size w w' := by
  obtain ⟨L, rfl, hD, _⟩ := hd
  have h2 : w.cell? ⟨p, 2, none⟩ = some (.map (some L.nowM)) := hD.head.cell 2
  have HN := Lib.hid hD.now
  have HH := Lib.hid (dnames_has hD.now)
  have HS := Lib.hid hS
  have HFU := Lib.hid hfull
  have HD := Lib.hid hD
  have hnl := hS.now
  rw [← dnames_length] at hnl
  generalize hlen : (dnames S.now).length = len at hnl
  have HL := Lib.hid hlen
  have hsn : size S.now ≤ 2199023255552 := by have := hS.now; omega
  have HSN := Lib.hid hsn
  clear hD hS hfull hlen hsn
  go_enter Tryz.func30, Tryz.ntmps30
  go_wp2_with (go_at_call 80; refine (names_any _ _ _ _ HN.out HSN.out).mono ?_; rintro e w1 ⟨v, rfl, ho, hb⟩; rw [HL.out] at ho; obtain ⟨a, c, rfl, _⟩ := own_shape ho; have HO := Lib.hid ho; have HB := Lib.hid hb; have hp1 : w1.cell? ⟨p, 2, none⟩ = some (.map (some L.nowM)) := (hb.cell (HD.out.head.lt)).trans h2; clear ho hb)
  have hsz1 : w.heap.size ≤ w1.heap.size := HB.out.size
  go_loopw [3, 14] (fun s t wr => ∃ k : Nat, k ≤ len ∧ t = .int .i64 k ∧ FilesAt wr w1.heap.size s (S.image.take k) ∧ Below w1.heap.size w1 wr) (fun _ t _ => len - (intOf t).toNat)
  case atStart => exact ⟨0, Nat.zero_le _, rfl, FilesAt.nil _ _, Below.refl _ _⟩
  case round =>
    obtain ⟨k, hk, rfl, ⟨vals, hvl, hown, hdat⟩, hbk⟩ := hrel
    have hil : S.image.length = len := by rw [← HL.out]; simp [Drv.image]
    have hik : (S.image.take k).length = k := by rw [List.length_take, hil]; omega
    rw [hik] at hown hvl
    have hsr : w1.heap.size ≤ wr.heap.size := hbk.size
    have hbw : Below w.heap.size w wr := HB.out.trans (hbk.mono hsz1)
    have hDr : DrvAt wr p S L := HD.out.keep fun q hq => hbw.block q (HD.out.foot_lt hq)
    obtain ⟨a3, c3, rfl, _⟩ := own_shape hown
    by_cases hlt : k < len
    · obtain ⟨nm, hnm⟩ : ∃ s, (dnames S.now)[k]? = some s := ⟨_, List.getElem?_eq_getElem (by rw [HL.out]; exact hlt)⟩
      obtain ⟨hn1, i, hg⟩ := HFU.out nm (HH.out nm (List.mem_of_getElem? hnm))
      obtain ⟨g, cap, hv, _, hglt⟩ := HO.out.form (by omega)
      have ha : a = some ⟨g, 0, none⟩ := by injection hv
      subst ha
      have x0 : wr.cell? ⟨g, k, none⟩ = some (.string ⟨nm.toArray⟩) := by
        have := HO.out.cells (g := g) rfl k (strV nm) (by rw [List.getElem?_map, hnm]; rfl)
        rw [hbk.cell (p := ⟨g, k, none⟩) hglt]; simpa [add_plain, strV] using this
      have x2 : wr.cell? ⟨p, 2, none⟩ = some (.map (some L.nowM)) := hDr.head.cell 2
      have hl := hDr.now.lookup ⟨nm.toArray⟩ (by show nm.toArray.size ≤ maxLen; simp [maxLen]; omega)
      have he : (⟨nm.toArray⟩ : ByteArray).data.toList = nm := by simp
      rw [he, hg] at hl
      simp only [ptrO] at hl
      have hib : i < S.bodies.length := by rw [← hDr.la]; exact hDr.now.dget_lt nm (by unfold maxLen; omega) hg
      obtain ⟨ai, ci, hvi, _⟩ := own_shape (hDr.data i hib)
      have hci : wr.cell? ⟨adrOf L.addr i, 0, none⟩ = some (.slice ai (S.len i) ci) := by have := (hDr.body i hib).cell 0; rw [hvi] at this; exact this
      have HRD := Lib.hid (reads_own hvi (hDr.data i hib))
      have hleni := HS.out.len i
      have hst : S.image.take (k + 1) = S.image.take k ++ [(nm, (S.body i).data)] := by
        rw [List.take_add_one]
        have : S.image[k]? = some (nm, (S.body i).data) := by
          unfold Drv.image; rw [List.getElem?_map, hnm]; simp [Drv.at_, hg]
        rw [this]; rfl
      have HST := Lib.hid hst
      have HOWN := Lib.hid hown
      have HDAT := Lib.hid hdat
      have HVL := Lib.hid hvl
      have HBK := Lib.hid hbk
      have HIK := Lib.hid hik
      clear hown hdat hvl hbk hbw hDr hnm hg hv he hvi hst hik hil
      obtain ⟨i118, hi118, hz0, hz1, hz2⟩ := info_parts fileInfo
      go_wp2_with (first
        | (go_at_call 79; refine (clone_any _ _ _ _ _ _ HRD.out (by omega)).mono ?_; rintro e w2 ⟨v2, rfl, ho2, hb2⟩; obtain ⟨a2, c2, rfl, _⟩ := own_shape ho2; have HO2 := Lib.hid ho2; have HB2 := Lib.hid hb2; have hs2 : wr.heap.size ≤ w2.heap.size := hb2.size; clear ho2 hb2)
        | (at_builtin; (refine wpList_append_any _ rfl (.tmp 18) (.tmp 31) 60 rfl w1.heap.size 171 i118 _ 2 40 Tryz.underlying60 hi118 hz0 hz1 hz2 rfl (by omega) _ k _ rfl ((ownsRow_below HOWN.out HB2.out).alloc _) (w2.heap.size + 1) (some ⟨w2.heap.size, 0, none⟩) 1 1 [.string ⟨nm.toArray⟩, .slice a2 (S.len i) c2] rfl (by exact reads_blk (t := 171) (blk_last _ _ _ _ rfl) (by omega) rfl) (by intro u hu; simp at hu; rcases hu with rfl | rfl <;> rfl) (by simp only [maxLen]; omega) (by omega) (by rw [alloc_size]; omega) ?_); intro v3 w3 hown3 hg3 hat3; obtain ⟨a4, c4, rfl, _⟩ := own_shape hown3; have HOWN3 := Lib.hid hown3; have HG3 : Hid ((w2.alloc (.cells #[.string ⟨nm.toArray⟩, .slice a2 (S.len i) c2] 171)).grownBy w3 (Value.slice a3 k c3).ownBlock) := Lib.hid hg3; have HAT3 := Lib.hid hat3; clear hown3 hg3 hat3))
      go_wp2
      go_roundw
      case rel =>
        have hlen2 : (S.body i).data.length = S.len i := rfl
        have hrow2 : w3.ownsRow w1.heap.size 5 1 (.slice a2 (S.len i) c2) (S.len i) ((S.body i).data.map B8) :=
          ((ownsRow_base_a HO2.out hsr).alloc _).kept HG3.out (own_ne (w := w2.alloc (.cells #[.string ⟨nm.toArray⟩, .slice a2 (S.len i) c2] 171)) (HO2.out.alloc _) ((ownsRow_below HOWN.out HB2.out).alloc _) (by decide))
        refine ⟨k + 1, by omega, by go_num, ?_, ?_⟩
        · rw [HST.out]
          refine FilesAt.snoc (vals := vals) (u := .slice a2 (S.len i) c2) (by rw [HVL.out, HIK.out]) (fun k' f u hf hu => ?_) (by rw [HIK.out]; exact HOWN3.out) hrow2
          have := ownsRow_below (HDAT.out k' f u hf hu) HB2.out
          exact (this.alloc _).kept HG3.out (own_ne (w := w2.alloc (.cells #[.string ⟨nm.toArray⟩, .slice a2 (S.len i) c2] 171)) (this.alloc _) ((ownsRow_below HOWN.out HB2.out).alloc _) (by decide))
        · have t1 : Below w1.heap.size w1 w2 := HBK.out.trans (HB2.out.mono hsr)
          exact (t1.alloc (by omega) _).grown HG3.out (by rw [alloc_size]; omega) (fun q hq => (HOWN.out.lt q hq).1)
      case measure => simp [intOf]; omega
    · have hkl : k = len := by omega
      subst hkl
      go_wp2
      go_ret
      refine ⟨_, rfl, ?_, hbw⟩
      have : S.image.take k = S.image := List.take_of_length_le (by omega)
      rw [this] at hown hdat
      exact FilesAt.base ⟨vals, by omega, by rw [hil]; exact hown, hdat⟩ hsz1
end Go.Proofs.YtcbebefdbdppdaaGreat
namespace Go.Proofs.YtcbebefdbdppdaaGreat
open Go.RowKit Go.Maps

theorem Reads.cutTo {w : World} {B n : Nat} {A : Option Addr} {xs : List Value} {m : Nat} (h : Reads w B 1 A n xs) (hm : m ≤ n) : Reads w B 1 A m (xs.take m) := by
  refine ⟨by rw [List.length_take, h.1]; omega, fun h0 => ?_⟩
  obtain ⟨ad, e, hb, hc⟩ := h.2 (by omega)
  refine ⟨ad, e, hb, fun j u hu => hc j u ?_⟩
  rw [List.getElem?_take] at hu
  split at hu
  · exact hu
  · cases hu

theorem below_of_drew {B : Nat} {w w' : World} (h : Below B w.drew w') : Below B w w' := ⟨h.os, h.tape, h.output, h.size, h.block⟩

theorem safe_nil (w : World) : Calls Tryz.prog 103 #[.pointer none] w fun e w' => e = .returned (.slice none 0 0) ∧ w = w' := by
  go_enter Tryz.func103, Tryz.ntmps103
  go_wp2
  go_ret
  exact ⟨rfl, rfl⟩

set_option maxRecDepth 100000 in
set_option maxHeartbeats 1000000 in
theorem safe_any (p : Nat) (S : Drv) (addr : List Nat) (F : Nat → Prop) (w : World) (hd : DrA w p S addr F) (hS : S.Small) (hfull : Full S.kept) (hsf : ∀ i, (S.body i).safe ≤ S.len i) :
    Calls Tryz.prog 103 #[.pointer (some ⟨p, 0, none⟩)] w fun e w' =>
      ∃ v, e = .returned v ∧ FilesAt w' w.heap.size v S.safes ∧ Below w.heap.size w w' := by
  obtain ⟨L, rfl, hD, _⟩ := hd
  have h2 : w.cell? ⟨p, 3, none⟩ = some (.map (some L.keptM)) := hD.head.cell 3
  have HN := Lib.hid hD.kept
  have HH := Lib.hid (dnames_has hD.kept)
  have HS := Lib.hid hS
  have HFU := Lib.hid hfull
  have HD := Lib.hid hD
  have HSF := Lib.hid hsf; clear hsf
  have hnl := hS.kept
  rw [← dnames_length] at hnl
  generalize hlen : (dnames S.kept).length = len at hnl
  have HL := Lib.hid hlen
  have hsn : size S.kept ≤ 2199023255552 := by have := hS.kept; omega
  have HSN := Lib.hid hsn
  clear hD hS hfull hlen hsn
  go_enter Tryz.func103, Tryz.ntmps103
  go_wp2_with (go_at_call 80; refine (names_any _ _ _ _ HN.out HSN.out).mono ?_; rintro e w1 ⟨v, rfl, ho, hb⟩; rw [HL.out] at ho; obtain ⟨a, c, rfl, _⟩ := own_shape ho; have HO := Lib.hid ho; have HB := Lib.hid hb; have hp1 : w1.cell? ⟨p, 3, none⟩ = some (.map (some L.keptM)) := (hb.cell (HD.out.head.lt)).trans h2; clear ho hb)
  have hsz1 : w.heap.size ≤ w1.heap.size := HB.out.size
  go_loopw [3, 15] (fun s t wr => ∃ k : Nat, k ≤ len ∧ t = .int .i64 k ∧ FilesAt wr w1.heap.size s (S.safes.take k) ∧ Below w1.heap.size w1 wr) (fun _ t _ => len - (intOf t).toNat)
  case atStart => exact ⟨0, Nat.zero_le _, rfl, FilesAt.nil _ _, Below.refl _ _⟩
  case round =>
    obtain ⟨k, hk, rfl, ⟨vals, hvl, hown, hdat⟩, hbk⟩ := hrel
    have hil : S.safes.length = len := by rw [← HL.out]; simp [Drv.safes]
    have hik : (S.safes.take k).length = k := by rw [List.length_take, hil]; omega
    rw [hik] at hown hvl
    have hsr : w1.heap.size ≤ wr.heap.size := hbk.size
    have hbw : Below w.heap.size w wr := HB.out.trans (hbk.mono hsz1)
    have hDr : DrvAt wr p S L := HD.out.keep fun q hq => hbw.block q (HD.out.foot_lt hq)
    obtain ⟨a3, c3, rfl, _⟩ := own_shape hown
    by_cases hlt : k < len
    · obtain ⟨nm, hnm⟩ : ∃ s, (dnames S.kept)[k]? = some s := ⟨_, List.getElem?_eq_getElem (by rw [HL.out]; exact hlt)⟩
      obtain ⟨hn1, i, hg⟩ := HFU.out nm (HH.out nm (List.mem_of_getElem? hnm))
      obtain ⟨g, cap, hv, _, hglt⟩ := HO.out.form (by omega)
      have ha : a = some ⟨g, 0, none⟩ := by injection hv
      subst ha
      have x0 : wr.cell? ⟨g, k, none⟩ = some (.string ⟨nm.toArray⟩) := by
        have := HO.out.cells (g := g) rfl k (strV nm) (by rw [List.getElem?_map, hnm]; rfl)
        rw [hbk.cell (p := ⟨g, k, none⟩) hglt]; simpa [add_plain, strV] using this
      have x2 : wr.cell? ⟨p, 3, none⟩ = some (.map (some L.keptM)) := hDr.head.cell 3
      have hl := hDr.kept.lookup ⟨nm.toArray⟩ (by show nm.toArray.size ≤ maxLen; simp [maxLen]; omega)
      have he : (⟨nm.toArray⟩ : ByteArray).data.toList = nm := by simp
      rw [he, hg] at hl
      simp only [ptrO] at hl
      have hib : i < S.bodies.length := by rw [← hDr.la]; exact hDr.kept.dget_lt nm (by unfold maxLen; omega) hg
      obtain ⟨ai, ci, hvi, hcc⟩ := own_shape (hDr.data i hib)
      have hci : wr.cell? ⟨adrOf L.addr i, 0, none⟩ = some (.slice ai (S.len i) ci) := by have := (hDr.body i hib).cell 0; rw [hvi] at this; exact this
      have hsafe : (S.body i).safe ≤ S.len i := HSF.out i
      obtain ⟨m, hm⟩ : ∃ m, m = (S.body i).safe := ⟨_, rfl⟩
      have hc1 : wr.cell? ⟨adrOf L.addr i, 1, none⟩ = some (.int .i64 m) := by rw [hm]; exact (hDr.body i hib).cell 1
      rw [← hm] at hsafe
      have HRD := Lib.hid ((reads_own hvi (hDr.data i hib)).cutTo hsafe)
      rw [← List.map_take] at HRD
      have hleni := HS.out.len i
      have HM := Lib.hid hm
      have hmc : m ≤ ci := by omega
      have hst : S.safes.take (k + 1) = S.safes.take k ++ [(nm, (S.body i).data.take (S.body i).safe)] := by
        rw [List.take_add_one]
        have : S.safes[k]? = some (nm, (S.body i).data.take (S.body i).safe) := by
          unfold Drv.safes; rw [List.getElem?_map, hnm]; simp [Drv.at_, hg]
        rw [this]; rfl
      have HST := Lib.hid hst
      have HOWN := Lib.hid hown
      have HDAT := Lib.hid hdat
      have HVL := Lib.hid hvl
      have HBK := Lib.hid hbk
      have HIK := Lib.hid hik
      clear hown hdat hvl hbk hbw hDr hnm hg hv he hvi hst hik hil hm
      obtain ⟨i118, hi118, hz0, hz1, hz2⟩ := info_parts fileInfo
      go_wp2
      have hm63 : k + 1 ≤ maxLen := by simp only [maxLen]; omega
      have HM63 := Lib.hid hm63; clear hm63
      have hb2 : (k + 1) * 40 ≤ 140737488355328 := by omega
      have HB40 := Lib.hid hb2; clear hb2
      have hmb : m ≤ 140737488355328 := by omega
      have HMB := Lib.hid hmb; clear hmb
      go_region_law (first
        | (go_simp; go_at_call 79; (refine (clone_any ai m ci _ wr.drew wr.heap.size HRD.out.drew HMB.out).mono ?_); rintro e w2 ⟨v2, rfl, ho2, hb2⟩; obtain ⟨a2, c2, rfl, _⟩ := own_shape ho2; have HO2 : Hid (w2.ownsRow wr.heap.size 5 1 (.slice a2 m c2) m ((List.take m (S.body i).data).map B8)) := Lib.hid ho2; have HB2 : Hid (Below wr.heap.size wr.drew w2) := Lib.hid hb2; have hs2 : wr.heap.size ≤ w2.heap.size := hb2.size; clear ho2 hb2)
        | ((refine step_append_any _ rfl (.tmp 25) (.tmp 38) 60 rfl w1.heap.size 171 i118 _ 2 40 Tryz.underlying60 hi118 hz0 hz1 hz2 rfl (by omega) _ k _ rfl ((ownsRow_below HOWN.out (below_of_drew HB2.out)).alloc _) (w2.heap.size + 1) (some ⟨w2.heap.size, 0, none⟩) 1 1 [.string ⟨nm.toArray⟩, .slice a2 m c2] rfl (by exact reads_blk (t := 171) (blk_last _ _ _ _ rfl) (by omega) rfl) (by intro u hu; simp at hu; rcases hu with rfl | rfl <;> rfl) HM63.out HB40.out (by rw [alloc_size]; omega) ?_); intro v3 w3 hown3 hg3 hat3; obtain ⟨a4, c4, rfl, _⟩ := own_shape hown3; have HOWN3 := Lib.hid hown3; have HG3 : Hid ((w2.alloc (.cells #[.string ⟨nm.toArray⟩, .slice a2 m c2] 171)).grownBy w3 (Value.slice a3 k c3).ownBlock) := Lib.hid hg3; have HAT3 := Lib.hid hat3; clear hown3 hg3 hat3))
      all_goals (
        go_wp2
        go_roundw
        case rel =>
          have hdl : (List.take m (S.body i).data).length = m := by
            have : (S.body i).data.length = S.len i := rfl
            rw [List.length_take, this]; omega
          have HB3 : Hid (Below wr.heap.size wr w2) := below_of_drew HB2.out
          have hrow2 : w3.ownsRow w1.heap.size 5 1 (.slice a2 m c2) m ((List.take m (S.body i).data).map B8) :=
            ((ownsRow_base_a HO2.out hsr).alloc _).kept HG3.out (own_ne (w := w2.alloc (.cells #[.string ⟨nm.toArray⟩, .slice a2 m c2] 171)) (HO2.out.alloc _) ((ownsRow_below HOWN.out HB3.out).alloc _) (by decide))
          refine ⟨k + 1, by omega, by go_num, ?_, ?_⟩
          · rw [HST.out]
            refine FilesAt.snoc (vals := vals) (u := .slice a2 m c2) (by rw [HVL.out, HIK.out]) (fun k' f u hf hu => ?_) (by rw [HIK.out]; exact HOWN3.out) (by rw [← HM.out]; show w3.ownsRow _ _ _ _ (List.take m (S.body i).data).length _; rw [hdl]; exact hrow2)
            have := ownsRow_below (HDAT.out k' f u hf hu) HB3.out
            exact (this.alloc _).kept HG3.out (own_ne (w := w2.alloc (.cells #[.string ⟨nm.toArray⟩, .slice a2 m c2] 171)) (this.alloc _) ((ownsRow_below HOWN.out HB3.out).alloc _) (by decide))
          · have t1 : Below w1.heap.size w1 w2 := HBK.out.trans (HB3.out.mono hsr)
            exact (t1.alloc (by omega) _).grown HG3.out (by rw [alloc_size]; omega) (fun q hq => (HOWN.out.lt q hq).1)
        case measure => simp [intOf]; omega)
    · have hkl : k = len := by omega
      subst hkl
      go_wp2
      go_ret
      refine ⟨_, rfl, ?_, hbw⟩
      have : S.safes.take k = S.safes := List.take_of_length_le (by omega)
      rw [this] at hown hdat
      exact FilesAt.base ⟨vals, by omega, by rw [hil]; exact hown, hdat⟩ hsz1
end Go.Proofs.YtcbebefdbdppdaaGreat
namespace Go.Proofs.YtcbebefdbdppdaaGreat
open Go.RowKit Go.Maps

structure Fz where
  round : Int
  call : Int
  inside : Int

structure Wnd where
  down : Bool
  away : Bool
  plan : List (Int × Int)
  calls : Int
  round : Int
  fuse : Option Fz

namespace Wnd
def new : Wnd := ⟨false, false, [], 0, 0, none⟩
def lit (X : Wnd) : Bool :=
  match X.fuse with
  | some f => f.round == 0
  | none => false
/-- What the first fault of that number says. -/
def scan (may : Bool) (number : Int) : List (Int × Int) → Int
  | [] => 0
  | f :: r => if f.1 = number then (if f.2 = 1 then 120 else if f.2 = 2 ∧ may = true then 111 else 0) else scan may number r
def hits (X : Wnd) : Bool :=
  match X.fuse with
  | some f => f.round == 0 && f.call == X.round
  | none => false
def inside (X : Wnd) : Int :=
  match X.fuse with
  | some f => max 0 f.inside
  | none => 0
def count (X : Wnd) : Wnd := { X with calls := X.calls + 1, round := X.round + 1 }
def struck (X : Wnd) (may : Bool) : Wnd × Int × Int :=
  if X.down = true then (X, 122, -1) else
  if X.away = true then (X, 121, -1) else
  if X.hits = true then ({ X.count with down := true }, 122, X.inside) else
  (X.count, scan may X.calls X.plan, -1)
def rest (X : Wnd) (off : Bool) : Wnd :=
  { X with
    fuse := (match X.fuse with
      | some f => if f.round = 0 then none else some { f with round := f.round - 1 }
      | none => none)
    round := 0, down := X.down || off }
def setFuse (X : Wnd) (r c i : Int) : Wnd := { X with fuse := if 0 ≤ r then some ⟨r, c, i⟩ else none }
def arm (X : Wnd) (plan : List (Int × Int)) : Wnd := { X with plan := plan, calls := 0 }
/-- Nothing wraps. -/
structure Ok (X : Wnd) : Prop where
  calls : 0 ≤ X.calls ∧ X.calls ≤ 1152921504606846976
  round : 0 ≤ X.round ∧ X.round ≤ 1152921504606846976
  plan : X.plan.length ≤ 8796093021952
  fuse : ∀ f, X.fuse = some f → 0 ≤ f.round ∧ f.round ≤ 9223372036854775807
end Wnd

def planCells (l : List (Int × Int)) : List Value := l.flatMap fun f => [.int .i64 f.1, .int .i64 f.2]
def fuseV (fq : Option Nat) : Value := .pointer (fq.map fun b => ⟨b, 0, none⟩)

structure WndAt (w : World) (q : Nat) (dv : Value) (X : Wnd) (pv : Value) (fq : Option Nat) : Prop where
  head : Blk w q 55 #[dv, .bool X.down, .bool X.away, pv, .int .i64 X.calls, .int .i64 X.round, fuseV fq]
  plan : w.ownsRow 0 214 2 pv X.plan.length (planCells X.plan)
  none_ : fq = none → X.fuse = none
  some_ : ∀ b, fq = some b → ∃ f, X.fuse = some f ∧ Blk w b 178 #[.int .i64 f.round, .int .i64 f.call, .int .i64 f.inside]

def wfoot (q : Nat) (pv : Value) (fq : Option Nat) (k : Nat) : Prop := k = q ∨ pv.ownBlock = some k ∨ fq = some k
/-- A wound at q, on the drive that 'dv' leads to, within the blocks F. -/
def Wn (w : World) (q : Nat) (dv : Value) (X : Wnd) (F : Nat → Prop) : Prop := ∃ pv fq, WndAt w q dv X pv fq ∧ ∀ k, wfoot q pv fq k → F k

section
variable {w w' : World} {q : Nat} {dv : Value} {X : Wnd} {pv : Value} {fq : Option Nat} {F G : Nat → Prop}
theorem WndAt.keep (h : WndAt w q dv X pv fq) (hk : ∀ k, wfoot q pv fq k → w'.heap[k]? = w.heap[k]?) : WndAt w' q dv X pv fq where
  head := (hk q (.inl rfl)).trans h.head
  plan := ownsRow_keep h.plan fun k e => hk k (.inr (.inl e))
  none_ := h.none_
  some_ := fun b e => by
    obtain ⟨f, e1, hb⟩ := h.some_ b e
    exact ⟨f, e1, (hk b (.inr (.inr e))).trans hb⟩
theorem WndAt.foot_lt (h : WndAt w q dv X pv fq) {k : Nat} (hk : wfoot q pv fq k) : k < w.heap.size := by
  rcases hk with rfl | e | e
  · exact h.head.lt
  · exact (h.plan.lt k e).2
  · obtain ⟨f, _, hb⟩ := h.some_ k e
    exact hb.lt
theorem Wn.keep (h : Wn w q dv X F) (ht : Touch G w w') (hd : ∀ k, F k → ¬G k) : Wn w' q dv X F := by
  obtain ⟨pv, fq, h, hf⟩ := h
  exact ⟨pv, fq, h.keep fun k hk => ht.block k (h.foot_lt hk) (hd k (hf k hk)), hf⟩
theorem Wn.mono (h : Wn w q dv X F) (hFG : ∀ k, F k → G k) : Wn w q dv X G := by
  obtain ⟨pv, fq, h, hf⟩ := h
  exact ⟨pv, fq, h, fun k hk => hFG k (hf k hk)⟩
end

/-- Struck. -/
theorem lit_any (q : Nat) (dv : Value) (X : Wnd) (pv : Value) (fq : Option Nat) (w : World) (h : WndAt w q dv X pv fq) :
    Calls Tryz.prog 109 #[.pointer (some ⟨q, 0, none⟩)] w fun e w' => e = .returned (.bool X.lit) ∧ w = w' := by
  have h6 : w.cell? ⟨q, 6, none⟩ = some (fuseV fq) := h.head.cell 6
  cases fq with
  | none =>
    have hX : X.lit = false := by unfold Wnd.lit; rw [h.none_ rfl]
    rw [hX]
    simp only [fuseV, Option.map] at h6
    clear h hX
    go_enter Tryz.func109, Tryz.ntmps109
    go_wp2
    go_ret
    exact ⟨rfl, rfl⟩
  | some b =>
    obtain ⟨f, hf, hb⟩ := h.some_ b rfl
    have hX : X.lit = (f.round == 0) := by unfold Wnd.lit; rw [hf]
    rw [hX]
    simp only [fuseV, Option.map] at h6
    have hb0 : w.cell? ⟨b, 0, none⟩ = some (.int .i64 f.round) := hb.cell 0
    clear h hX hf hb
    go_enter Tryz.func109, Tryz.ntmps109
    go_wp2
    go_ret
    exact ⟨rfl, rfl⟩
theorem lit_nil (w : World) : Calls Tryz.prog 109 #[.pointer none] w fun e w' => e = .returned (.bool false) ∧ w = w' := by
  go_enter Tryz.func109, Tryz.ntmps109
  go_wp2
  go_ret
  exact ⟨rfl, rfl⟩
end Go.Proofs.YtcbebefdbdppdaaGreat

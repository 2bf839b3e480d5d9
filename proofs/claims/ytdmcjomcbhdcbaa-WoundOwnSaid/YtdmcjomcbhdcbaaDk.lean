/- Lists of files as answers of a drive: their place in memory; names of a directory; Image. -/
import Derived.Test.YtdmcjomcbhdcbaaDj
namespace Go.Proofs.Ytdmcjomcbhdcbaa
open Go.RowKit Go.Maps

/-- Every name of a directory is short and leads to a body. -/
def Full (D : Dir) : Prop := ∀ s, has D (key s) = true → s.length ≤ 1024 ∧ ∃ i, dget D s = some i

theorem alloc_size (w : World) (o : Obj) : (w.alloc o).heap.size = w.heap.size + 1 := by simp

theorem dnames_has {w : World} {addr : List Nat} {b : Nat} {D : Dir} (h : DirAt w addr b D) : ∀ x ∈ dnames D, has D (key x) = true := by
  intro x hx
  rw [dnames, List.mem_mergeSort] at hx
  obtain ⟨es, rfl, hko⟩ := World.ownsMap.keysOf h
  obtain ⟨p, hp, rfl⟩ := List.mem_map.1 hx
  obtain ⟨v, hv⟩ := hko p hp
  obtain ⟨y, _, hy, _⟩ := Maps.keyOf_str Try.underlying9 hv
  rw [has_eq, List.any_eq_true]
  exact ⟨p, hp, by rw [hy]; simp [Lit.sameKey, strOf, key]⟩

theorem dnames_length (D : Dir) : (dnames D).length = size D := by
  rw [dnames, (List.mergeSort_perm _ _).length_eq]
  cases D <;> simp [strKeys, size]

abbrev File := Nm × List UInt8
def fileCells (fs : List File) (vals : List Value) : List Value := (fs.zip vals).flatMap fun x => [strV x.1.1, x.2]
def FilesAt (w : World) (base : Nat) (v : Value) (fs : List File) : Prop :=
  ∃ vals : List Value, vals.length = fs.length ∧ w.ownsRow base 118 2 v fs.length (fileCells fs vals) ∧ ∀ (k : Nat) (f : File) (u : Value), fs[k]? = some f → vals[k]? = some u → w.ownsRow base 5 1 u f.2.length (f.2.map B8)

theorem ownsRow_below {w w' : World} {base : Nat} {e : TypeId} {size n : Nat} {v : Value} {xs : List Value} (h : w.ownsRow base e size v n xs) (hb : Below w.heap.size w w') : w'.ownsRow base e size v n xs :=
  ownsRow_keep h fun k hk => hb.block k (h.lt k hk).2
theorem FilesAt.below {w w' : World} {base : Nat} {v : Value} {fs : List File} (h : FilesAt w base v fs) (hb : Below w.heap.size w w') : FilesAt w' base v fs := by
  obtain ⟨vals, hl, ho, hd⟩ := h
  exact ⟨vals, hl, ownsRow_below ho hb, fun k f u hf hu => ownsRow_below (hd k f u hf hu) hb⟩
theorem FilesAt.nil (w : World) (base : Nat) : FilesAt w base (.slice none 0 0) [] := ⟨[], rfl, World.ownsRow_nil _ _ _ _, fun k f u hf => by simp at hf⟩
theorem FilesAt.base {w : World} {base base' : Nat} {v : Value} {fs : List File} (h : FilesAt w base v fs) (hb : base' ≤ base) : FilesAt w base' v fs := by
  obtain ⟨vals, hl, ho, hd⟩ := h
  exact ⟨vals, hl, ownsRow_base_a ho hb, fun k f u hf hu => ownsRow_base_a (hd k f u hf hu) hb⟩

theorem fileCells_snoc (fs : List File) (vals : List Value) (f : File) (u : Value) (h : vals.length = fs.length) : fileCells (fs ++ [f]) (vals ++ [u]) = fileCells fs vals ++ [strV f.1, u] := by
  unfold fileCells
  rw [List.zip_append h.symm]; simp

/-- One file more: behind the law on append. -/
theorem FilesAt.snoc {w1 : World} {base : Nat} {v1 : Value} {fs : List File} {f : File} {u : Value} {vals : List Value} (hl : vals.length = fs.length)
    (hd : ∀ (k : Nat) (f : File) (u : Value), fs[k]? = some f → vals[k]? = some u → w1.ownsRow base 5 1 u f.2.length (f.2.map B8))
    (ho : w1.ownsRow base 118 2 v1 (fs.length + 1) (fileCells fs vals ++ [strV f.1, u])) (hu : w1.ownsRow base 5 1 u f.2.length (f.2.map B8)) : FilesAt w1 base v1 (fs ++ [f]) := by
  refine ⟨vals ++ [u], by simp [hl], by rw [fileCells_snoc _ _ _ _ hl, List.length_append]; exact ho, fun k g t hg ht => ?_⟩
  rcases Nat.lt_trichotomy k fs.length with h | h | h
  · rw [List.getElem?_append_left h] at hg
    rw [List.getElem?_append_left (by omega)] at ht
    exact hd k g t hg ht
  · subst h
    rw [List.getElem?_append_right (Nat.le_refl _)] at hg
    rw [← hl, List.getElem?_append_right (Nat.le_refl _)] at ht
    simp at hg ht; subst hg; subst ht; exact hu
  · rw [List.getElem?_eq_none (by simp; omega)] at hg; cases hg

namespace Drv
def at_ (S : Drv) (D : Dir) (s : Nm) : Body := S.body ((dget D s).getD 0)
def image (S : Drv) : List File := (dnames S.now).map fun s => (s, (S.at_ S.now s).data)
def safes (S : Drv) : List File := (dnames S.kept).map fun s => (s, (S.at_ S.kept s).data.take (S.at_ S.kept s).safe)
end Drv

theorem fileInfo : (Try.prog.info? 118).map (fun i => (i.zero, i.size, i.bytes)) = some (some (.agg #[.string ⟨#[]⟩, .slice none 0 0]), 2, 40) := by kernel_rfl

theorem image_nil (w : World) : Calls Try.prog 46 #[.pointer none] w fun e w' => e = .returned (.slice none 0 0) ∧ w = w' := by
  go_enter Try.func46, Try.ntmps46
  go_wp2
  go_ret
  exact ⟨rfl, rfl⟩

set_option maxRecDepth 100000 in
set_option maxHeartbeats 1000000 in
theorem image_any (p : Nat) (S : Drv) (addr : List Nat) (F : Nat → Prop) (w : World) (hd : DrA w p S addr F) (hS : S.Small) (hfull : Full S.now) :
    Calls Try.prog 46 #[.pointer (some ⟨p, 0, none⟩)] w fun e w' =>
      ∃ v, e = .returned v ∧ FilesAt w' w.heap.size v S.image ∧ Below w.heap.size w w' := by
  obtain ⟨L, rfl, hD, _⟩ := hd
  have h2 : w.cell? ⟨p, 2, none⟩ = some (.map (some L.nowM)) := hD.head.cell 2
  have HN := Lib.hid hD.now
  have HH := Lib.hid (dnames_has hD.now)
  have HS := Lib.hid hS
  have HFU := Lib.hid hfull
  have HD := Lib.hid hD
  have hnl := hS.now
  rw [← dnames_length] at hnl
  generalize hlen : (dnames S.now).length = len at hnl
  have HL := Lib.hid hlen
  have hsn : size S.now ≤ 2199023255552 := by have := hS.now; omega
  have HSN := Lib.hid hsn
  clear hD hS hfull hlen hsn
  go_enter Try.func46, Try.ntmps46
  go_wp2_with (go_at_call 72; refine (names_any _ _ _ _ HN.out HSN.out).mono ?_; rintro e w1 ⟨v, rfl, ho, hb⟩; rw [HL.out] at ho; obtain ⟨a, c, rfl, _⟩ := own_shape ho; have HO := Lib.hid ho; have HB := Lib.hid hb; have hp1 : w1.cell? ⟨p, 2, none⟩ = some (.map (some L.nowM)) := (hb.cell (HD.out.head.lt)).trans h2; clear ho hb)
  have hsz1 : w.heap.size ≤ w1.heap.size := HB.out.size
  go_loopw [3, 14] (fun s t wr => ∃ k : Nat, k ≤ len ∧ t = .int .i64 k ∧ FilesAt wr w1.heap.size s (S.image.take k) ∧ Below w1.heap.size w1 wr) (fun _ t _ => len - (intOf t).toNat)
  case atStart => exact ⟨0, Nat.zero_le _, rfl, FilesAt.nil _ _, Below.refl _ _⟩
  case round =>
    obtain ⟨k, hk, rfl, ⟨vals, hvl, hown, hdat⟩, hbk⟩ := hrel
    have hil : S.image.length = len := by rw [← HL.out]; simp [Drv.image]
    have hik : (S.image.take k).length = k := by rw [List.length_take, hil]; omega
    rw [hik] at hown hvl
    have hsr : w1.heap.size ≤ wr.heap.size := hbk.size
    have hbw : Below w.heap.size w wr := HB.out.trans (hbk.mono hsz1)
    have hDr : DrvAt wr p S L := HD.out.keep fun q hq => hbw.block q (HD.out.foot_lt hq)
    obtain ⟨a3, c3, rfl, _⟩ := own_shape hown
    by_cases hlt : k < len
    · obtain ⟨nm, hnm⟩ : ∃ s, (dnames S.now)[k]? = some s := ⟨_, List.getElem?_eq_getElem (by rw [HL.out]; exact hlt)⟩
      obtain ⟨hn1, i, hg⟩ := HFU.out nm (HH.out nm (List.mem_of_getElem? hnm))
      obtain ⟨g, cap, hv, _, hglt⟩ := HO.out.form (by omega)
      have ha : a = some ⟨g, 0, none⟩ := by injection hv
      subst ha
      have x0 : wr.cell? ⟨g, k, none⟩ = some (.string ⟨nm.toArray⟩) := by
        have := HO.out.cells (g := g) rfl k (strV nm) (by rw [List.getElem?_map, hnm]; rfl)
        rw [hbk.cell (p := ⟨g, k, none⟩) hglt]; simpa [add_plain, strV] using this
      have x2 : wr.cell? ⟨p, 2, none⟩ = some (.map (some L.nowM)) := hDr.head.cell 2
      have hl := hDr.now.lookup ⟨nm.toArray⟩ (by show nm.toArray.size ≤ maxLen; simp [maxLen]; omega)
      have he : (⟨nm.toArray⟩ : ByteArray).data.toList = nm := by simp
      rw [he, hg] at hl
      simp only [ptrO] at hl
      have hib : i < S.bodies.length := by rw [← hDr.la]; exact hDr.now.dget_lt nm (by unfold maxLen; omega) hg
      obtain ⟨ai, ci, hvi, _⟩ := own_shape (hDr.data i hib)
      have hci : wr.cell? ⟨adrOf L.addr i, 0, none⟩ = some (.slice ai (S.len i) ci) := by have := (hDr.body i hib).cell 0; rw [hvi] at this; exact this
      have HRD := Lib.hid (reads_own hvi (hDr.data i hib))
      have hleni := HS.out.len i
      have hst : S.image.take (k + 1) = S.image.take k ++ [(nm, (S.body i).data)] := by
        rw [List.take_add_one]
        have : S.image[k]? = some (nm, (S.body i).data) := by
          unfold Drv.image; rw [List.getElem?_map, hnm]; simp [Drv.at_, hg]
        rw [this]; rfl
      have HST := Lib.hid hst
      have HOWN := Lib.hid hown
      have HDAT := Lib.hid hdat
      have HVL := Lib.hid hvl
      have HBK := Lib.hid hbk
      have HIK := Lib.hid hik
      clear hown hdat hvl hbk hbw hDr hnm hg hv he hvi hst hik hil
      obtain ⟨i118, hi118, hz0, hz1, hz2⟩ := info_parts fileInfo
      go_wp2_with (first
        | (go_at_call 73; refine (clone_any _ _ _ _ _ _ HRD.out (by omega)).mono ?_; rintro e w2 ⟨v2, rfl, ho2, hb2⟩; obtain ⟨a2, c2, rfl, _⟩ := own_shape ho2; have HO2 := Lib.hid ho2; have HB2 := Lib.hid hb2; have hs2 : wr.heap.size ≤ w2.heap.size := hb2.size; clear ho2 hb2)
        | (at_builtin; go_loud (refine wpList_append_any _ rfl (.tmp 18) (.tmp 31) 39 rfl w1.heap.size 118 i118 _ 2 40 Try.underlying39 hi118 hz0 hz1 hz2 rfl (by omega) _ k _ rfl ((ownsRow_below HOWN.out HB2.out).alloc _) (w2.heap.size + 1) (some ⟨w2.heap.size, 0, none⟩) 1 1 [.string ⟨nm.toArray⟩, .slice a2 (S.len i) c2] rfl (by exact reads_blk (t := 118) (blk_last _ _ _ _ rfl) (by omega) rfl) (by intro u hu; simp at hu; rcases hu with rfl | rfl <;> rfl) (by simp only [maxLen]; omega) (by omega) (by rw [alloc_size]; omega) ?_); intro v3 w3 hown3 hg3 hat3; obtain ⟨a4, c4, rfl, _⟩ := own_shape hown3; have HOWN3 := Lib.hid hown3; have HG3 : Hid ((w2.alloc (.cells #[.string ⟨nm.toArray⟩, .slice a2 (S.len i) c2] 118)).grownBy w3 (Value.slice a3 k c3).ownBlock) := Lib.hid hg3; have HAT3 := Lib.hid hat3; clear hown3 hg3 hat3))
      go_wp2
      go_roundw
      case rel =>
        have hlen2 : (S.body i).data.length = S.len i := rfl
        have hrow2 : w3.ownsRow w1.heap.size 5 1 (.slice a2 (S.len i) c2) (S.len i) ((S.body i).data.map B8) :=
          ((ownsRow_base_a HO2.out hsr).alloc _).kept HG3.out (own_ne (w := w2.alloc (.cells #[.string ⟨nm.toArray⟩, .slice a2 (S.len i) c2] 118)) (HO2.out.alloc _) ((ownsRow_below HOWN.out HB2.out).alloc _) (by decide))
        refine ⟨k + 1, by omega, by go_num, ?_, ?_⟩
        · rw [HST.out]
          refine FilesAt.snoc (vals := vals) (u := .slice a2 (S.len i) c2) (by rw [HVL.out, HIK.out]) (fun k' f u hf hu => ?_) (by rw [HIK.out]; exact HOWN3.out) hrow2
          have := ownsRow_below (HDAT.out k' f u hf hu) HB2.out
          exact (this.alloc _).kept HG3.out (own_ne (w := w2.alloc (.cells #[.string ⟨nm.toArray⟩, .slice a2 (S.len i) c2] 118)) (this.alloc _) ((ownsRow_below HOWN.out HB2.out).alloc _) (by decide))
        · have t1 : Below w1.heap.size w1 w2 := HBK.out.trans (HB2.out.mono hsr)
          exact (t1.alloc (by omega) _).grown HG3.out (by rw [alloc_size]; omega) (fun q hq => (HOWN.out.lt q hq).1)
      case measure => simp [intOf]; omega
    · have hkl : k = len := by omega
      subst hkl
      go_wp2
      go_ret
      refine ⟨_, rfl, ?_, hbw⟩
      have : S.image.take k = S.image := List.take_of_length_le (by omega)
      rw [this] at hown hdat
      exact FilesAt.base ⟨vals, by omega, by rw [hil]; exact hown, hdat⟩ hsz1
end Go.Proofs.Ytdmcjomcbhdcbaa

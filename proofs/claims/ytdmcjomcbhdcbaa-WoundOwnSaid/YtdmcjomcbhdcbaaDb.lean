/- Contract of the drive's directories: a change is made. -/
import Derived.Test.YtdmcjomcbhdcbaaDa
namespace Go.Proofs.Ytdmcjomcbhdcbaa
open Go.RowKit Go.Maps Go.WideMaps

theorem chg_get (addr : List Nat) : ∀ (c : List Stp) (k : Nat) (s : Stp), c[k]? = some s → (chgCells addr c)[k * 2]? = some (strV s.1) ∧ (chgCells addr c)[k * 2 + 1]? = some (ptrO addr s.2)
  | [], k, s, h => by simp at h
  | x :: c, 0, s, h => by simp at h; subst h; simp [chgCells]
  | x :: c, k + 1, s, h => by
    have := chg_get addr c k s (by simpa using h)
    rw [show (k + 1) * 2 = k * 2 + 2 by omega]
    simpa [chgCells] using this

theorem applyC_snoc (D : Dir) (c : List Stp) (s : Stp) : applyC D (c ++ [s]) = applyStp (applyC D c) s := by simp [applyC, List.foldl_append]

theorem size_del_le {D : Dir} (h : Tidy D) (k : Lit) : size (D.del k) ≤ size D := by have := size_del (k := k) h; split at this <;> omega
theorem size_put_le {D : Dir} (h : Tidy D) (k : Nm) (d : DataW Unit) : size (D.put (key k) d) ≤ size D + 1 := by rw [size_put h]; split <;> omega
theorem applyStp_tidy {D : Dir} (h : Tidy D) (s : Stp) : Tidy (applyStp D s) ∧ size (applyStp D s) ≤ size D + 1 := by
  unfold applyStp
  split
  · exact ⟨h.del _, by have := size_del_le h (key s.1); omega⟩
  · exact ⟨h.put (isKey _) _, size_put_le h _ _⟩
theorem applyC_tidy : ∀ (c : List Stp) {D : Dir}, Tidy D → Tidy (applyC D c) ∧ size (applyC D c) ≤ size D + c.length
  | [], D, h => ⟨h, by simp [applyC]⟩
  | s :: c, D, h => by
    have h1 := applyStp_tidy h s
    have h2 := applyC_tidy c h1.1
    exact ⟨h2.1, by have e : applyC D (s :: c) = applyC (applyStp D s) c := rfl
                    rw [e, List.length_cons]; omega⟩

theorem strV_keys (n : Nm) (hn : n.length ≤ maxLen) : keyOf Try.prog 9 (.string ⟨n.toArray⟩) = some (key n) :=
  keyOf_string_mk Try.underlying9 (s := ⟨n.toArray⟩) (by simpa [ByteArray.size] using hn)

set_option maxHeartbeats 1000000 in
theorem apply_any (b g : Nat) (D : Dir) (addr : List Nat) (c : List Stp) (w : World) (hd : DirAt w addr b D) (hb : Blk w g 122 (chgCells addr c).toArray) (hnd : addr.Nodup) (hok : okC addr c)
    (hsz : size D + c.length ≤ 2199023255552) :
    Calls Try.prog 71 #[.map (some b), .slice (some ⟨g, 0, none⟩) c.length c.length] w fun e w' =>
      e = .returned (.tuple #[]) ∧ DirAt w' addr b (applyC D c) ∧ Touch (· = b) w w' := by
  have HD := Lib.hid hd
  have HB := Lib.hid hb
  have HOK := Lib.hid hok; clear hok
  have htid := Lib.hid hd.tidy
  have hbl := hd.lt
  have hgl := hb.lt
  have hgb : g ≠ b := by
    rintro rfl
    obtain ⟨es, clock, h1, _⟩ := hd
    unfold Blk at hb
    rw [h1] at hb; injection hb with hb; cases hb
  have hcl : c.length ≤ 2199023255552 := by omega
  have HSZ := Lib.hid hsz; clear hsz
  clear hd hb
  generalize hlen : c.length = len at *
  have HL := Lib.hid hlen; clear hlen
  go_enter Try.func71, Try.ntmps71
  go_wp2
  go_loopw [8] (fun s wr => ∃ k : Nat, k ≤ len ∧ s = .int .i64 k ∧ DirAt wr addr b (applyC D (c.take k)) ∧ Touch (· = b) w wr) (fun s _ => len - (intOf s).toNat)
  case atStart => exact ⟨0, Nat.zero_le _, rfl, HD.out, Touch.refl _ _⟩
  case round =>
    obtain ⟨k, hk, rfl, hdk, htk⟩ := hrel
    have HDK := Lib.hid hdk; clear hdk
    have HTK := Lib.hid htk; clear htk
    have hszr : w.heap.size ≤ wr.heap.size := HTK.out.size
    by_cases hlt : k < len
    · obtain ⟨⟨nm, to⟩, hst⟩ : ∃ s, c[k]? = some s := ⟨c[k]'(by rw [HL.out]; exact hlt), List.getElem?_eq_getElem _⟩
      obtain ⟨hnm, hto⟩ := HOK.out _ (List.mem_of_getElem? hst)
      have HS := Lib.hid (show applyC D (c.take (k + 1)) = applyStp (applyC D (c.take k)) (nm, to) from by
        rw [List.take_add_one, hst, Option.toList_some, applyC_snoc])
      obtain ⟨c1, c2⟩ := chg_get addr c k _ hst
      have hblk : wr.heap[g]? = some (.cells (chgCells addr c).toArray 122 (0, 0)) := (HTK.out.block g hgl hgb).trans HB.out
      have x1 : wr.cell? ⟨g, k * 2, none⟩ = some (.string ⟨nm.toArray⟩) := by rw [Blk.cell hblk]; simpa [strV] using c1
      have x2 : wr.cell? ⟨g, k * 2 + 1, none⟩ = some (ptrO addr to) := by rw [Blk.cell hblk]; simpa using c2
      have htsz := (applyC_tidy (c.take k) htid.out)
      have hts : size (applyC D (c.take k)) < maxLen := by
        have h1 := htsz.2
        have h3 := HSZ.out
        have h2 : (c.take k).length ≤ len := by rw [← HL.out]; exact List.length_take_le' _ _
        unfold maxLen; omega
      have HTS := Lib.hid hts
      have HST := Lib.hid hst
      clear c1 c2 hblk htsz hts hst
      cases to with
      | none =>
        simp only [ptrO] at x2
        go_wp2_with (at_delete; refine wpList_delete_own _ rfl _ _ 87 9 rfl 109 dirKeyed Try.underlying87 (elemR addr) b _ _ rfl (World.ownsMap.alloc HDK.out _) _ _ rfl (strV_keys nm hnm) ?_; intro w1 hown1 hturn1)
        have hd1 : DirAt w1 addr b (applyC D (c.take (k + 1))) := by rw [HS.out]; exact .of hown1
        have ht1 : Touch (· = b) w w1 := (HTK.out.trans (Touch.alloc _ _)).trans (Touch.of_grown hturn1.grown (fun q hq => by injection hq with hq; exact .inl hq.symm))
        clear hown1 hturn1
        go_wp2
        go_roundw
        case rel => exact ⟨k + 1, by omega, by go_num, hd1, ht1⟩
        case measure => simp [intOf]; omega
      | some i =>
        have hi : i < addr.length := hto i rfl
        simp only [ptrO] at x2
        go_wp2_with (at_mapUpdate; refine wpList_mapUpdate_own _ rfl _ _ _ 87 rfl 9 109 dirKeyed Try.underlying87 (elemR addr) b _ _ rfl (World.ownsMap.alloc HDK.out _) HTS.out _ _ _ rfl rfl (strV_keys nm hnm) (num i) [] (elemR_ptr hi hnd) ?_; intro w1 hown1 hgrow1)
        have hd1 : DirAt w1 addr b (applyC D (c.take (k + 1))) := by rw [HS.out]; exact .of hown1
        have ht1 : Touch (· = b) w w1 := (HTK.out.trans (Touch.alloc _ _)).trans (Touch.of_grown hgrow1 (fun q hq => by injection hq with hq; exact .inl hq.symm))
        clear hown1 hgrow1
        go_wp2
        go_roundw
        case rel => exact ⟨k + 1, by omega, by go_num, hd1, ht1⟩
        case measure => simp [intOf]; omega
    · have hkl : k = len := by omega
      subst hkl
      go_wp2
      go_end0
      exact ⟨rfl, by have := HDK.out; rwa [List.take_of_length_le (by rw [HL.out]; exact Nat.le_refl _)] at this, HTK.out⟩
end Go.Proofs.Ytdmcjomcbhdcbaa

/- Lists of texts that were answered: each is written full, each is grown, all are looked at. -/
import Derived.Test.YtdmcjomcbhdcbaaOb0
import Derived.Deep.RegionHeld3
namespace Go.Proofs.Ytdmcjomcbhdcbaa
open Go.RowKit Go.Maps

def nX (i : Nat) : Value := .string (mkS i true)
def nY (i : Nat) : Value := .string (mkS i false)
theorem strInfo : (Try.prog.info? 9).map (fun i => (i.zero, i.size, i.bytes)) = some (some (.string ⟨#[]⟩), 1, 16) := by kernel_rfl
theorem strsInfo : (Try.prog.info? 35).map (fun i => (i.zero, i.size, i.bytes)) = some (some (.slice none 0 0), 1, 24) := by kernel_rfl
theorem Ph1.below {rows : List Rw} {e : TypeId} {x : Nat → Value} {w wr V : World} {col : Nat → Nat} {i k : Nat} (h : Ph1 rows e x w wr col i k) (hb : Below wr.heap.size wr V) : Ph1 rows e x w V col i k :=
  ⟨fun j r hr => by obtain ⟨xs, hx, hq⟩ := h.1 j r hr; exact ⟨xs, hx.below hb fun _ _ => rfl, hq⟩, h.2.then (Touch.of_below (F := fun _ => False) hb) fun _ _ hf => hf.elim⟩
theorem cell_below {X V : World} {p : Addr} {v : Value} (hb : Below X.heap.size X V) (h : X.cell? p = some v) : V.cell? p = some v := (hb.cell (World.block_lt_of_cell? X p h)).trans h
/-- What the growing holds: the kept lists, whose they are. -/
def An2 (rows : List Rw) (w wr : World) (col : Nat → Nat) (ms : List Pc) (s5 s6 : Value) : Prop :=
  Ph2 rows 9 nX nY w wr col ms ∧ wr.ownsRow w.heap.size 35 1 s5 ms.length (ms.map Pc.val) ∧ wr.ownsRow w.heap.size 3 1 s6 ms.length (ms.map fun m => natV m.trk)
set_option maxRecDepth 100000 in
set_option maxHeartbeats 16000000 in
theorem apartNames_any (rows : List Rw) (h c : Nat) (col : Nat → Nat) (w : World) (hN : rows.length ≤ 100) (hL : ∀ r ∈ rows, r.2.1 ≤ 1000000) (hh : Blk w h 35 (rows.map slV).toArray)
    (h1 : ∀ (j : Nat) (r : Rw), rows[j]? = some r → ∃ xs, RowK w col j 9 (slV r) r.2.1 xs) :
    Calls Try.prog 53 #[.slice (some ⟨h, 0, none⟩) rows.length c] w fun e w' => e = .returned (.bool true) ∧ Touch (InF rows) w w' := by
  have hhF : ¬ InF rows h := by
    rintro ⟨j, r, hr, hb⟩
    obtain ⟨xs, hx⟩ := h1 j r hr
    obtain ⟨cur, hc⟩ := hx.typed hb
    have hh2 : w.heap[h]? = _ := hh
    rw [hh2] at hc
    injection hc with hc
    injection hc with _ ht
    exact absurd ht (by decide)
  have HH : Hid (∀ W, Touch (InF rows) w W → ∀ (i : Nat) (r : Rw), rows[i]? = some r → W.cell? ⟨h, i, none⟩ = some (slV r)) := Lib.hid fun W hW i r hr =>
    ((hh.touch hW hhF).cell i).trans (by rw [List.getElem?_toArray, List.getElem?_map, hr]; rfl)
  have HP0 : Hid (Ph1 rows 9 nX w w col 0 0) := Lib.hid (Ph1.start h1)
  have HL := Lib.hid hL
  obtain ⟨N, hNe⟩ : ∃ N, N = rows.length := ⟨_, rfl⟩
  rw [← hNe] at hN ⊢
  have HNE := Lib.hid hNe
  have HGET : Hid (∀ i, i < N → ∃ r : Rw, rows[i]? = some r ∧ r.2.1 ≤ 1000000) := Lib.hid fun i hi => ⟨rows[i]'(by omega), List.getElem?_eq_getElem (by omega), hL _ (List.getElem_mem _)⟩
  obtain ⟨i5, hi5, hz0, hz1, hz2⟩ := info_parts strInfo
  obtain ⟨i33, hi33, hy0, hy1, hy2⟩ := info_parts strsInfo
  obtain ⟨i3, hi3, hx0, hx1, hx2⟩ := info_parts intInfo
  have HHF := Lib.hid hhF
  clear hL hh h1 hNe hhF
  go_enter Try.func53, Try.ntmps53
  go_wp2_with fail
  go_loopw [3, 4] (fun s3 _ wr => ∃ i : Nat, i ≤ N ∧ s3 = .int .i64 i ∧ Ph1 rows 9 nX w wr col i 0) (fun s _ _ => N - (intOf s).toNat)
  case atStart => exact ⟨0, Nat.zero_le _, rfl, HP0.out⟩
  case round =>
    obtain ⟨i, hi, rfl, hp⟩ := hrel
    have HP := Lib.hid hp
    clear hp
    by_cases hlt : i < N
    · obtain ⟨⟨a, L, cc⟩, hr, hLb⟩ := HGET.out i hlt
      have HR := Lib.hid hr
      have hc1 : wr.cell? ⟨h, i, none⟩ = some (.slice a L cc) := HH.out wr HP.out.2 i _ hr
      have hLb2 : L ≤ 1000000 := hLb
      clear hr hLb
      go_wp2_with fail
      go_loopw [4] (fun s4 wx => ∃ k : Nat, k ≤ L ∧ s4 = .int .i64 k ∧ Ph1 rows 9 nX w wx col i k) (fun s _ => L - (intOf s).toNat)
      case atStart => exact ⟨0, Nat.zero_le _, rfl, HP.out⟩
      case round =>
        obtain ⟨k, hk, rfl, hq⟩ := hrel
        have HQ := Lib.hid hq
        clear hc1
        by_cases hk2 : k < L
        · obtain ⟨g, c', he⟩ := hq.form HR.out (by show 0 < L; omega)
          injection he with he1 he2
          injection he2 with _ he3
          subst he1 he3
          have hc2 : wr.cell? ⟨h, i, none⟩ = some (.slice (some ⟨g, 0, none⟩) L cc) := HH.out wr hq.2 i _ HR.out
          obtain ⟨u, hc3⟩ := hq.cell HR.out hk2
          have hfz : ∀ j, wr.frozen? ⟨g, j, none⟩ = false := fun j => hq.frozen HR.out j
          have HMK := Lib.hid (fun V => mark_any i (by omega) true V)
          clear hq
          have s1 : wr.drew.cell? ⟨h, i, none⟩ = some (.slice (some ⟨g, 0, none⟩) L cc) := hc2
          have s2 : wr.drew.cell? ⟨g, k, none⟩ = some u := hc3
          have s3 : wr.drew.frozen? ⟨g, k, none⟩ = false := hfz k
          have hgl : g < wr.drew.heap.size := World.block_lt_of_cell? wr.drew _ s2
          clear hfz
          go_wp2
          have hne : (⟨g, k, none⟩ : Addr) ≠ ⟨h, i, none⟩ := fun e => HHF.out ⟨i, _, HR.out, by injection e with e; rw [e]; rfl⟩
          go_region_held3 (fun w' => w'.cell? ⟨h, i, none⟩ = some (.slice (some ⟨g, 0, none⟩) L cc) ∧ w'.frozen? ⟨g, k, none⟩ = false) (first | exact ⟨s1, s3⟩ | exact ⟨hc2, s3⟩ | exact ⟨q1, q3⟩ | exact ⟨q4 _, q5 _⟩ | go_keep) ((go_at_call 76; refine (HMK.out _).mono ?_; rintro e V ⟨rfl, hbV⟩; have HBV := Lib.hid hbV; have q1 := cell_below hbV s1; have q2 := cell_below hbV s2; have q3 : V.frozen? ⟨g, k, none⟩ = false := (hbV.frozen (p := ⟨g, k, none⟩) hgl).trans s3; have q4 : ∀ u, (V.setCell ⟨g, k, none⟩ u).cell? ⟨h, i, none⟩ = some (.slice (some ⟨g, 0, none⟩) L cc) := fun u => (World.cell?_setCell_other V ⟨g, k, none⟩ ⟨h, i, none⟩ u (fun e => hne e)).trans q1; have q5 : ∀ u, (V.setCell ⟨g, k, none⟩ u).frozen? ⟨g, k, none⟩ = false := fun u => (by simp [q3]); clear hbV))
          have HPV : Hid (Ph1 rows 9 nX w V col i k) := Lib.hid (HQ.out.below ((below_drewN (Below.refl _ wr) 1).trans HBV.out))
          go_wp2
          go_roundw
          case rel => exact ⟨k + 1, by omega, by go_num, HPV.out.store HR.out hk2⟩
          case measure => simp [intOf]; omega
        · obtain rfl : k = L := by omega
          have hc2 : wr.cell? ⟨h, i, none⟩ = some (.slice a k cc) := HH.out wr hq.2 i _ HR.out
          clear hq
          go_wp2
          go_roundw
          case rel => exact ⟨i + 1, by omega, by go_num, HQ.out.next HR.out rfl⟩
          case measure => simp [intOf]; omega
    · obtain rfl : i = N := by omega
      have HA0 : Hid (An2 rows w wr col [] (.slice none 0 0) (.slice none 0 0)) := Lib.hid ⟨Ph2.of_ph1 HP.out (Nat.le_of_eq HNE.out.symm), World.ownsRow_nil _ _ _ _, World.ownsRow_nil _ _ _ _⟩
      go_wp2_with fail
      go_loopw [5, 6, 7, 8, 9] (fun s5 s6 s7 _ _ wx => ∃ (t : Nat) (colx : Nat → Nat) (ms : List Pc) (a5 : Option Addr) (c5 : Nat) (a6 : Option Addr) (c6 : Nat), t ≤ i ∧ s7 = .int .i64 t ∧ s5 = .slice a5 ms.length c5 ∧ s6 = .slice a6 ms.length c6 ∧ An2 rows w wx colx ms s5 s6 ∧ (∀ m ∈ ms, m.trk < t) ∧ ms.length ≤ 70 * t) (fun _ _ s _ _ _ => i - (intOf s).toNat)
      case atStart => exact ⟨0, col, [], none, 0, none, 0, Nat.zero_le _, rfl, rfl, rfl, HA0.out, fun m hm => (nomatch hm), Nat.zero_le _⟩
      case round =>
        obtain ⟨t, colx, ms, a5, c5, a6, c6, ht, rfl, rfl, rfl, hap, htr, hml⟩ := hrel
        have HAP := Lib.hid hap
        have HTR := Lib.hid htr
        clear hap htr
        by_cases hlt2 : t < i
        · obtain ⟨r, hr, hLb⟩ := HGET.out t hlt2
          have HR := Lib.hid hr
          obtain ⟨a, L, cc⟩ := r
          have hLb2 : L ≤ 1000000 := hLb
          have hc1 : wr.cell? ⟨h, t, none⟩ = some (.slice a L cc) := HH.out wr HAP.out.1.2.2 t _ hr
          have HT0 : Hid (Trk rows 9 nX nY w wr colx t (a, L, cc) 0 (.slice a L cc) ms) := Lib.hid (Trk.start HAP.out.1 hr HTR.out)
          clear hr hLb
          go_wp2_with fail
          go_loopw [5, 6, 8, 9] (fun s5 s6 s8 s9 wx => ∃ (k : Nat) (colx : Nat → Nat) (ms : List Pc) (a5 : Option Addr) (c5 : Nat) (a6 : Option Addr) (c6 : Nat) (a8 : Option Addr) (c8 : Nat), k ≤ 70 ∧ s9 = .int .i64 k ∧ s8 = .slice a8 (L + k) c8 ∧ s5 = .slice a5 ms.length c5 ∧ s6 = .slice a6 ms.length c6 ∧ An2 rows w wx colx ms s5 s6 ∧ Trk rows 9 nX nY w wx colx t (a, L, cc) k s8 ms ∧ ms.length ≤ 70 * t + k) (fun _ _ _ s _ => 70 - (intOf s).toNat)
          case atStart => exact ⟨0, colx, ms, a5, c5, a6, c6, a, cc, Nat.zero_le _, rfl, rfl, rfl, rfl, HAP.out, HT0.out, hml⟩
          case round =>
            obtain ⟨k, colx, ms, a5, c5, a6, c6, a8, c8, hk, rfl, rfl, rfl, rfl, hap, htk, hml⟩ := hrel
            have HAP := Lib.hid hap
            have HTK := Lib.hid htk
            have hws := hap.1.2.2.size
            clear hap htk hc1
            by_cases hk2 : k < 70
            · have hmod : (128 + (t : Int)) % 256 = 128 + (t : Int) := by omega
              go_wp2_with fail
              refine (mark_any t (by omega) false wr).mono ?_
              rintro e V ⟨rfl, hbV⟩
              have hapV : An2 rows w V colx ms (.slice a5 ms.length c5) (.slice a6 ms.length c6) := ⟨HAP.out.1.keep (fun b cur hb => hbV.block b (RowK.lt_of hb)) (HAP.out.1.2.2.then (Touch.of_below (F := fun _ => False) hbV) (fun _ _ hf => hf.elim)), ownsRow_below HAP.out.2.1 hbV, ownsRow_below HAP.out.2.2 hbV⟩
              have htkV := HTK.out.keep (w' := V) (fun b cur hb => hbV.block b (RowK.lt_of hb))
              have hwsV := hbV.size
              clear HAP HTK
              have HAP := Lib.hid hapV
              have HTK := Lib.hid htkV
              clear hapV htkV hbV
              by_cases hk16 : k < 16 ∨ k = 69
              · rcases (show k < 16 ∨ (¬k < 16 ∧ k = 69) by omega) with g1 | ⟨g1, g2⟩
                · clear hk16
                  have g1' : (k : Int) < 16 := by omega
                  go_wp2_with (first
                  | (at_builtin; (refine wpList_append_grew _ rfl _ _ 35 rfl colx t 9 i5 _ 16 Try.underlying35 hi5 hz0 hz1 hz2 rfl (.slice a8 (L + k) c8) (L + k) _ rfl (HTK.out.1.below ((Below.refl _ V).alloc (Nat.le_refl _) _) (fun _ _ => rfl)) ⟨V.heap.size, 0, none⟩ 1 (nY t) rfl ((blk_last _ _ _ _ rfl).cell 0) rfl (by unfold maxLen; omega) (by omega) ?_; intro v1 w1 col1 hgr; obtain ⟨a9, c9, hv9, _⟩ := own_shape hgr.row.1; subst hv9; have hup := Ph2.grew (HAP.out.1.keep (fun b cur hb => Below.heap_alloc V _ b (RowK.lt_of hb)) (HAP.out.1.2.2.then (Touch.alloc V _) (fun _ _ hf => hf))) (HTK.out.keep (fun b cur hb => Below.heap_alloc V _ b (RowK.lt_of hb))) HR.out hk2 (by rw [alloc_size]; omega) hgr; have HP1 := Lib.hid hup.1; have HT1 := Lib.hid hup.2; have HRK := HTK.out.1.below ((Below.refl _ V).alloc (Nat.le_refl _) (Obj.cells #[.string (mkS t false)] 9)) (c' := colx) (fun _ _ => rfl); have HO5 := Lib.hid (row_grew (HAP.out.2.1.alloc _) hgr HRK (by decide)); have HO6 := Lib.hid (row_grew (HAP.out.2.2.alloc _) hgr HRK (by decide)); have hs1 : V.heap.size ≤ w1.heap.size := (by have := hgr.touch.size; rw [alloc_size] at this; omega); clear hgr hup HRK))
                  | (at_builtin; (refine wpList_append_any _ rfl _ _ 44 rfl w.heap.size 35 i33 _ 1 24 Try.underlying44 hi33 hy0 hy1 hy2 rfl (by omega) (.slice a5 ms.length c5) ms.length _ rfl (HO5.out.alloc _) (w1.heap.size + 1) (some ⟨w1.heap.size, 0, none⟩) 1 1 [.slice a9 (L + k + 1) c9] rfl (reads_blk (t := 35) (blk_last _ _ _ _ rfl) (by omega) rfl) (by intro u hu; simp at hu; subst hu; rfl) (by unfold maxLen; omega) (by omega) (by rw [alloc_size]; omega) ?_; intro v2 w2 hown hg hat; obtain ⟨a10, c10, hv10, _⟩ := own_shape hown; subst hv10; have HO7 := Lib.hid hown; have HO8 := Lib.hid (World.ownsRow.kept (HO6.out.alloc _) hg (own_ne HO6.out HO5.out (by decide))); have HP2 := Lib.hid ((HP1.out.keep (fun b cur hb => Below.heap_alloc w1 _ b (RowK.lt_of hb)) (HP1.out.2.2.then (Touch.alloc w1 _) (fun _ _ hf => hf))).keep (fun b cur hb => grown_typed (HO5.out.alloc _) hg (by decide) b cur hb) ((HP1.out.2.2.then (Touch.alloc w1 _) (fun _ _ hf => hf)).then (Touch.of_grown (F := fun b => w.heap.size ≤ b) hg (fun b hb => (HO5.out.lt b hb).1)) (fun b hb hf => absurd hb (by omega)))); have HT2 := Lib.hid ((HT1.out.keep (fun b cur hb => Below.heap_alloc w1 _ b (RowK.lt_of hb))).keep (fun b cur hb => grown_typed (HO5.out.alloc _) hg (by decide) b cur hb)); have hs2 : w1.heap.size ≤ w2.heap.size := (by have := hg.size; rw [alloc_size] at this; omega); clear hown hg hat))
                  | (at_builtin; (refine wpList_append_any _ rfl _ _ 65 rfl w.heap.size 3 i3 _ 1 8 Try.underlying65 hi3 hx0 hx1 hx2 rfl (by omega) (.slice a6 ms.length c6) ms.length _ rfl (HO8.out.alloc _) (w2.heap.size + 1) (some ⟨w2.heap.size, 0, none⟩) 1 1 [natV t] rfl (reads_blk (t := 3) (blk_last _ _ _ _ rfl) (by omega) rfl) (by intro u hu; simp at hu; subst hu; rfl) (by unfold maxLen; omega) (by omega) (by rw [alloc_size]; omega) ?_; intro v3 w3 hown hg hat; obtain ⟨a11, c11, hv11, _⟩ := own_shape hown; subst hv11; have HO9 := Lib.hid hown; have HO10 := Lib.hid (World.ownsRow.kept (HO7.out.alloc _) hg (own_ne HO7.out HO8.out (by decide))); have HP3 := Lib.hid ((HP2.out.keep (fun b cur hb => Below.heap_alloc w2 _ b (RowK.lt_of hb)) (HP2.out.2.2.then (Touch.alloc w2 _) (fun _ _ hf => hf))).keep (fun b cur hb => grown_typed (HO8.out.alloc _) hg (by decide) b cur hb) ((HP2.out.2.2.then (Touch.alloc w2 _) (fun _ _ hf => hf)).then (Touch.of_grown (F := fun b => w.heap.size ≤ b) hg (fun b hb => (HO8.out.lt b hb).1)) (fun b hb hf => absurd hb (by omega)))); have HT3 := Lib.hid ((HT2.out.keep (fun b cur hb => Below.heap_alloc w2 _ b (RowK.lt_of hb))).keep (fun b cur hb => grown_typed (HO8.out.alloc _) hg (by decide) b cur hb)); clear hown hg hat)))
                  go_roundw
                  case rel =>
                    refine ⟨k + 1, col1, ms ++ [⟨t, .slice a9 (L + k + 1) c9, L + k + 1⟩], a10, c10, a11, c11, a9, c9, by omega, by go_num, rfl, by rw [List.length_append]; rfl, by rw [List.length_append]; rfl, ⟨Ph2.add (k := k + 1) HP3.out HT3.out HR.out (by omega), ?_, ?_⟩, Trk.add (k := k + 1) HT3.out, by rw [List.length_append, List.length_singleton]; omega⟩
                    · rw [List.length_append, List.map_append]; exact HO10.out
                    · rw [List.length_append, List.map_append]; exact HO9.out
                  case measure => simp [intOf]; omega
                · clear hk16
                  have g1' : ¬ (k : Int) < 16 := by omega
                  have g2' : ((k : Int) == 69) = true := by simp; omega
                  clear g1 g2
                  go_wp2_with (first
                  | (at_builtin; (refine wpList_append_grew _ rfl _ _ 35 rfl colx t 9 i5 _ 16 Try.underlying35 hi5 hz0 hz1 hz2 rfl (.slice a8 (L + k) c8) (L + k) _ rfl (HTK.out.1.below ((Below.refl _ V).alloc (Nat.le_refl _) _) (fun _ _ => rfl)) ⟨V.heap.size, 0, none⟩ 1 (nY t) rfl ((blk_last _ _ _ _ rfl).cell 0) rfl (by unfold maxLen; omega) (by omega) ?_; intro v1 w1 col1 hgr; obtain ⟨a9, c9, hv9, _⟩ := own_shape hgr.row.1; subst hv9; have hup := Ph2.grew (HAP.out.1.keep (fun b cur hb => Below.heap_alloc V _ b (RowK.lt_of hb)) (HAP.out.1.2.2.then (Touch.alloc V _) (fun _ _ hf => hf))) (HTK.out.keep (fun b cur hb => Below.heap_alloc V _ b (RowK.lt_of hb))) HR.out hk2 (by rw [alloc_size]; omega) hgr; have HP1 := Lib.hid hup.1; have HT1 := Lib.hid hup.2; have HRK := HTK.out.1.below ((Below.refl _ V).alloc (Nat.le_refl _) (Obj.cells #[.string (mkS t false)] 9)) (c' := colx) (fun _ _ => rfl); have HO5 := Lib.hid (row_grew (HAP.out.2.1.alloc _) hgr HRK (by decide)); have HO6 := Lib.hid (row_grew (HAP.out.2.2.alloc _) hgr HRK (by decide)); have hs1 : V.heap.size ≤ w1.heap.size := (by have := hgr.touch.size; rw [alloc_size] at this; omega); clear hgr hup HRK))
                  | (at_builtin; (refine wpList_append_any _ rfl _ _ 44 rfl w.heap.size 35 i33 _ 1 24 Try.underlying44 hi33 hy0 hy1 hy2 rfl (by omega) (.slice a5 ms.length c5) ms.length _ rfl (HO5.out.alloc _) (w1.heap.size + 1) (some ⟨w1.heap.size, 0, none⟩) 1 1 [.slice a9 (L + k + 1) c9] rfl (reads_blk (t := 35) (blk_last _ _ _ _ rfl) (by omega) rfl) (by intro u hu; simp at hu; subst hu; rfl) (by unfold maxLen; omega) (by omega) (by rw [alloc_size]; omega) ?_; intro v2 w2 hown hg hat; obtain ⟨a10, c10, hv10, _⟩ := own_shape hown; subst hv10; have HO7 := Lib.hid hown; have HO8 := Lib.hid (World.ownsRow.kept (HO6.out.alloc _) hg (own_ne HO6.out HO5.out (by decide))); have HP2 := Lib.hid ((HP1.out.keep (fun b cur hb => Below.heap_alloc w1 _ b (RowK.lt_of hb)) (HP1.out.2.2.then (Touch.alloc w1 _) (fun _ _ hf => hf))).keep (fun b cur hb => grown_typed (HO5.out.alloc _) hg (by decide) b cur hb) ((HP1.out.2.2.then (Touch.alloc w1 _) (fun _ _ hf => hf)).then (Touch.of_grown (F := fun b => w.heap.size ≤ b) hg (fun b hb => (HO5.out.lt b hb).1)) (fun b hb hf => absurd hb (by omega)))); have HT2 := Lib.hid ((HT1.out.keep (fun b cur hb => Below.heap_alloc w1 _ b (RowK.lt_of hb))).keep (fun b cur hb => grown_typed (HO5.out.alloc _) hg (by decide) b cur hb)); have hs2 : w1.heap.size ≤ w2.heap.size := (by have := hg.size; rw [alloc_size] at this; omega); clear hown hg hat))
                  | (at_builtin; (refine wpList_append_any _ rfl _ _ 65 rfl w.heap.size 3 i3 _ 1 8 Try.underlying65 hi3 hx0 hx1 hx2 rfl (by omega) (.slice a6 ms.length c6) ms.length _ rfl (HO8.out.alloc _) (w2.heap.size + 1) (some ⟨w2.heap.size, 0, none⟩) 1 1 [natV t] rfl (reads_blk (t := 3) (blk_last _ _ _ _ rfl) (by omega) rfl) (by intro u hu; simp at hu; subst hu; rfl) (by unfold maxLen; omega) (by omega) (by rw [alloc_size]; omega) ?_; intro v3 w3 hown hg hat; obtain ⟨a11, c11, hv11, _⟩ := own_shape hown; subst hv11; have HO9 := Lib.hid hown; have HO10 := Lib.hid (World.ownsRow.kept (HO7.out.alloc _) hg (own_ne HO7.out HO8.out (by decide))); have HP3 := Lib.hid ((HP2.out.keep (fun b cur hb => Below.heap_alloc w2 _ b (RowK.lt_of hb)) (HP2.out.2.2.then (Touch.alloc w2 _) (fun _ _ hf => hf))).keep (fun b cur hb => grown_typed (HO8.out.alloc _) hg (by decide) b cur hb) ((HP2.out.2.2.then (Touch.alloc w2 _) (fun _ _ hf => hf)).then (Touch.of_grown (F := fun b => w.heap.size ≤ b) hg (fun b hb => (HO8.out.lt b hb).1)) (fun b hb hf => absurd hb (by omega)))); have HT3 := Lib.hid ((HT2.out.keep (fun b cur hb => Below.heap_alloc w2 _ b (RowK.lt_of hb))).keep (fun b cur hb => grown_typed (HO8.out.alloc _) hg (by decide) b cur hb)); clear hown hg hat)))
                  go_roundw
                  case rel =>
                    refine ⟨k + 1, col1, ms ++ [⟨t, .slice a9 (L + k + 1) c9, L + k + 1⟩], a10, c10, a11, c11, a9, c9, by omega, by go_num, rfl, by rw [List.length_append]; rfl, by rw [List.length_append]; rfl, ⟨Ph2.add (k := k + 1) HP3.out HT3.out HR.out (by omega), ?_, ?_⟩, Trk.add (k := k + 1) HT3.out, by rw [List.length_append, List.length_singleton]; omega⟩
                    · rw [List.length_append, List.map_append]; exact HO10.out
                    · rw [List.length_append, List.map_append]; exact HO9.out
                  case measure => simp [intOf]; omega
              · have g1 : ¬ (k : Int) < 16 := by omega
                have g2 : ((k : Int) == 69) = false := by simp; omega
                clear hk16
                go_wp2_with (at_builtin; (refine wpList_append_grew _ rfl _ _ 35 rfl colx t 9 i5 _ 16 Try.underlying35 hi5 hz0 hz1 hz2 rfl (.slice a8 (L + k) c8) (L + k) _ rfl (HTK.out.1.below ((Below.refl _ V).alloc (Nat.le_refl _) _) (fun _ _ => rfl)) ⟨V.heap.size, 0, none⟩ 1 (nY t) rfl ((blk_last _ _ _ _ rfl).cell 0) rfl (by unfold maxLen; omega) (by omega) ?_; intro v1 w1 col1 hgr; obtain ⟨a9, c9, hv9, _⟩ := own_shape hgr.row.1; subst hv9; have hup := Ph2.grew (HAP.out.1.keep (fun b cur hb => Below.heap_alloc V _ b (RowK.lt_of hb)) (HAP.out.1.2.2.then (Touch.alloc V _) (fun _ _ hf => hf))) (HTK.out.keep (fun b cur hb => Below.heap_alloc V _ b (RowK.lt_of hb))) HR.out hk2 (by rw [alloc_size]; omega) hgr; have HP1 := Lib.hid hup.1; have HT1 := Lib.hid hup.2; have HRK := HTK.out.1.below ((Below.refl _ V).alloc (Nat.le_refl _) (Obj.cells #[.string (mkS t false)] 9)) (c' := colx) (fun _ _ => rfl); have HO5 := Lib.hid (row_grew (HAP.out.2.1.alloc _) hgr HRK (by decide)); have HO6 := Lib.hid (row_grew (HAP.out.2.2.alloc _) hgr HRK (by decide)); have hs1 : V.heap.size ≤ w1.heap.size := (by have := hgr.touch.size; rw [alloc_size] at this; omega); clear hgr hup HRK))
                go_roundw
                case rel => exact ⟨k + 1, col1, ms, a5, c5, a6, c6, a9, c9, by omega, by go_num, rfl, rfl, rfl, ⟨HP1.out, HO5.out, HO6.out⟩, HT1.out, by omega⟩
                case measure => simp [intOf]; omega
            · obtain rfl : k = 70 := by omega
              go_wp2
              go_roundw
              case rel => exact ⟨t + 1, colx, ms, a5, c5, a6, c6, by omega, by go_num, rfl, rfl, HAP.out, fun m hm => by have := HTK.out.2.2.1 m hm; omega, by omega⟩
              case measure => simp [intOf]; omega
        · obtain rfl : t = i := by omega
          obtain ⟨w5, rfl⟩ : ∃ x : World, x = wr := ⟨_, rfl⟩
          go_wp2_with fail
          go_loopw [10, 11, 12, 13] (fun s10 _ _ _ wx => ∃ j : Nat, j ≤ ms.length ∧ s10 = .int .i64 j ∧ Below w5.heap.size w5 wx) (fun s _ _ _ _ => ms.length - (intOf s).toNat)
          case atStart => exact ⟨0, Nat.zero_le _, rfl, Below.refl _ _⟩
          case round =>
            obtain ⟨j, hj, rfl, hbj⟩ := hrel
            have HBJ := Lib.hid hbj
            by_cases hj2 : j < ms.length
            · obtain ⟨m, hm⟩ : ∃ m, ms[j]? = some m := ⟨_, List.getElem?_eq_getElem hj2⟩
              have hmem : m ∈ ms := List.mem_of_getElem? hm
              have hok := HAP.out.1.2.1 m hmem
              have htl := HTR.out m hmem
              obtain ⟨u, v, n⟩ := m
              obtain ⟨r, hr, _, hnr, am, cm, hv⟩ := hok
              have hnb : n ≤ 1000070 := by
                have h1 := HL.out r (List.mem_of_getElem? hr)
                have h2 : n ≤ r.2.1 + 70 := hnr
                omega
              have hv' : v = .slice am n cm := hv
              subst hv'
              have HOK := Lib.hid (HAP.out.1.2.1 _ hmem)
              have HR := Lib.hid hr
              have htl2 : u < t := htl
              have hrow := HAP.out.2.1
              have hrow6 := HAP.out.2.2
              obtain ⟨b5, e5⟩ := own_head hrow (by omega)
              obtain ⟨b6, e6⟩ := own_head hrow6 (by omega)
              subst e5 e6
              have hk5 : w5.cell? ⟨b5, j, none⟩ = some (.slice am n cm) := (hrow.cellAt j (by omega)).trans (by rw [List.getElem?_map, hm]; rfl)
              have hk6 : w5.cell? ⟨b6, j, none⟩ = some (.int .i64 (u : Int)) := (hrow6.cellAt j (by omega)).trans (by rw [List.getElem?_map, hm]; rfl)
              obtain ⟨a, L, cc⟩ := r
              have hkh : w5.cell? ⟨h, u, none⟩ = some (.slice a L cc) := HH.out w5 HAP.out.1.2.2 u _ hr
              have hc5 := cell_below hbj hk5
              have hc6 := cell_below hbj hk6
              have hch := cell_below hbj hkh
              have HK5 := Lib.hid hk5
              have HKH := Lib.hid hkh
              clear hm hmem htl hr hrow hrow6 hnr hk5 hk6 hkh hbj
              obtain ⟨w6, rfl⟩ : ∃ x : World, x = wr := ⟨_, rfl⟩
              go_wp2_with fail
              go_loopw [12, 13] (fun s12 _ wx => ∃ q : Nat, q ≤ n ∧ s12 = .int .i64 q ∧ Below w5.heap.size w5 wx) (fun s _ _ => n - (intOf s).toNat)
              case atStart => exact ⟨0, Nat.zero_le _, rfl, HBJ.out⟩
              case round =>
                obtain ⟨q, hq, rfl, hbq⟩ := hrel
                have HBQ := Lib.hid hbq
                have hd5 := cell_below hbq HK5.out
                have hdh := cell_below hbq HKH.out
                clear hc5 hc6 hch
                by_cases hq2 : q < n
                · obtain ⟨b, cb, hvb, hcb⟩ := HOK.out.read HR.out hq2
                  have hvb' : Value.slice am n cm = .slice (some ⟨b, 0, none⟩) n cb := hvb
                  injection hvb' with e1 _ e3
                  subst e1 e3
                  clear hvb
                  have HMK := Lib.hid (fun ins V => mark_any u (by omega) ins V)
                  by_cases hq3 : q < L
                  · obtain ⟨bb, he, hcr⟩ := HAP.out.1.read HR.out (q := q) hq3
                    injection he with he1 _
                    subst he1
                    have hcb' : w5.cell? ⟨b, q, none⟩ = some (.string (mkS u true)) := hcb.trans (by rw [if_pos (show q < (some (⟨bb, 0, none⟩ : Addr), L, cc).2.1 from hq3)]; rfl)
                    have hcr' : w5.cell? ⟨bb, q, none⟩ = some (.string (mkS u true)) := hcr
                    have hd1 := cell_below hbq hcb'
                    have hd2 := cell_below hbq hcr'
                    have s1 : wr.drew.cell? ⟨b5, j, none⟩ = some (.slice (some ⟨b, 0, none⟩) n cm) := hd5
                    have s2 : wr.drew.cell? ⟨b, q, none⟩ = some (.string (mkS u true)) := hd1
                    have s3 : wr.drew.cell? ⟨h, u, none⟩ = some (.slice (some ⟨bb, 0, none⟩) L cc) := hdh
                    have s4 : wr.drew.cell? ⟨bb, q, none⟩ = some (.string (mkS u true)) := hd2
                    have tok : True := trivial
                    clear hcb hcr hcb' hcr' hbq
                    go_wp2
                    go_region_held3 (fun w' => w'.cell? ⟨b5, j, none⟩ = some (.slice (some ⟨b, 0, none⟩) n cm) ∧ w'.cell? ⟨b, q, none⟩ = some (.string (mkS u true)) ∧ w'.cell? ⟨h, u, none⟩ = some (.slice (some ⟨bb, 0, none⟩) L cc) ∧ w'.cell? ⟨bb, q, none⟩ = some (.string (mkS u true))) (first | exact ⟨s1, s2, s3, s4⟩ | exact ⟨hd5, hd1, hdh, hd2⟩ | exact ⟨r1, r2, r3, r4⟩ | exact ⟨p1, p2, p3, p4⟩ | go_keep) ((first | (go_at_call 76; have _t := tok; clear tok; refine (HMK.out _ _).mono ?_; rintro e V ⟨rfl, hbV⟩; have HBV := Lib.hid hbV; have p1 := cell_below hbV s1; have p2 := cell_below hbV s2; have p3 := cell_below hbV s3; have p4 := cell_below hbV s4; clear hbV) | (go_at_call 76; refine (HMK.out _ _).mono ?_; rintro e V2 ⟨rfl, hbV⟩; have HBV2 := Lib.hid hbV; have r1 := cell_below hbV p1; have r2 := cell_below hbV p2; have r3 := cell_below hbV p3; have r4 := cell_below hbV p4; clear hbV)))
                    all_goals
                      go_wp2
                      go_roundw
                      case rel => exact ⟨q + 1, by omega, by go_num, HBQ.out.trans ((((below_drewN (Below.refl _ wr) 1).trans HBV.out).trans (HBV2.out.mono (by have := HBV.out.size; exact this))).mono HBQ.out.size)⟩
                      case measure => simp [intOf]; omega
                  · have hcb' : w5.cell? ⟨b, q, none⟩ = some (.string (mkS u false)) := hcb.trans (by rw [if_neg (show ¬ q < (a, L, cc).2.1 from hq3)]; rfl)
                    have hd1 := cell_below hbq hcb'
                    have s1 : wr.drew.cell? ⟨b5, j, none⟩ = some (.slice (some ⟨b, 0, none⟩) n cm) := hd5
                    have s2 : wr.drew.cell? ⟨b, q, none⟩ = some (.string (mkS u false)) := hd1
                    have s3 : wr.drew.cell? ⟨h, u, none⟩ = some (.slice a L cc) := hdh
                    have hdq : decide (q < L) = false := decide_eq_false hq3
                    clear hcb hcb' hbq
                    go_wp2
                    refine wp_region_held_drew (S := (fun w' => w'.cell? ⟨b5, j, none⟩ = some (.slice (some ⟨b, 0, none⟩) n cm) ∧ w'.cell? ⟨b, q, none⟩ = some (.string (mkS u false)) ∧ w'.cell? ⟨h, u, none⟩ = some (.slice a L cc))) (by kernel_rfl) ?_ (fun hHeld => ?_)
                    · ((try dsimp only); (first | exact ⟨s1, s2, s3⟩ | exact ⟨hd5, hd1, hdh⟩ | exact ⟨p1, p2, p3⟩ | go_keep))
                    refine wpAnyH_take (i := 0) (oi := ⟨_, _, _, _, _, _⟩) (v := ?_) rfl (by kernel_rfl) (by kernel_rfl) (by kernel_rfl) (fun _ _ _ h => h) (Or.inl ⟨by kernel_rfl, ?_⟩) (by assumption) ?_
                    rotate_left
                    · (intro wS hSw; (try dsimp only at hSw); go_simp; try with_reducible rfl)
                    try simp only [Act.put, List.setIfInBounds_toArray, List.set_cons_zero, List.set_cons_succ]
                    refine wpAnyH_take (i := 1) (oi := ⟨_, _, _, _, _, _⟩) (v := ?_) rfl (by kernel_rfl) (by kernel_rfl) (by kernel_rfl) (fun _ _ _ h => h) (Or.inl ⟨by kernel_rfl, ?_⟩) (by assumption) ?_
                    rotate_left
                    · (intro wS hSw; (try dsimp only at hSw); go_simp; try with_reducible rfl)
                    try simp only [Act.put, List.setIfInBounds_toArray, List.set_cons_zero, List.set_cons_succ]
                    refine wpAnyH_take (i := 2) (oi := ⟨_, _, _, _, _, _⟩) (v := ?_) rfl (by kernel_rfl) (by kernel_rfl) (by kernel_rfl) (fun _ _ _ h => h) (Or.inl ⟨by kernel_rfl, ?_⟩) (by assumption) ?_
                    rotate_left
                    · (intro wS hSw; (try dsimp only at hSw); go_simp; try with_reducible rfl)
                    try simp only [Act.put, List.setIfInBounds_toArray, List.set_cons_zero, List.set_cons_succ]
                    refine wpAnyH_take (i := 3) (oi := ⟨_, _, _, _, _, _⟩) (v := ?_) rfl (by kernel_rfl) (by kernel_rfl) (by kernel_rfl) (fun _ _ _ h => h) (Or.inl ⟨by kernel_rfl, ?_⟩) (by assumption) ?_
                    rotate_left
                    · (intro wS hSw; (try dsimp only at hSw); go_simp; try with_reducible rfl)
                    try simp only [Act.put, List.setIfInBounds_toArray, List.set_cons_zero, List.set_cons_succ]
                    refine wpAnyH_take (i := 4) (oi := ⟨_, _, _, _, _, _⟩) (v := ?_) rfl (by kernel_rfl) (by kernel_rfl) (by kernel_rfl) (fun _ _ _ h => h) (Or.inl ⟨by kernel_rfl, ?_⟩) (by assumption) ?_
                    rotate_left
                    · (intro wS hSw; (try dsimp only at hSw); go_simp; try with_reducible rfl)
                    try simp only [Act.put, List.setIfInBounds_toArray, List.set_cons_zero, List.set_cons_succ]
                    refine wpAnyH_take (i := 5) (oi := ⟨_, _, _, _, _, _⟩) (v := ?_) rfl (by kernel_rfl) (by kernel_rfl) (by kernel_rfl) (fun _ _ _ h => h) (Or.inl ⟨by kernel_rfl, ?_⟩) (by assumption) ?_
                    rotate_left
                    · (intro wS hSw; (try dsimp only at hSw); go_simp; try with_reducible rfl)
                    try simp only [Act.put, List.setIfInBounds_toArray, List.set_cons_zero, List.set_cons_succ]
                    refine wpAnyH_take (i := 6) (oi := ⟨_, _, _, _, _, _⟩) (v := ?_) rfl (by kernel_rfl) (by kernel_rfl) (by kernel_rfl) (fun _ _ _ h => h) (Or.inl ⟨by kernel_rfl, ?_⟩) (by assumption) ?_
                    rotate_left
                    · (intro wS hSw; (try dsimp only at hSw); go_simp; try with_reducible rfl)
                    try simp only [Act.put, List.setIfInBounds_toArray, List.set_cons_zero, List.set_cons_succ]
                    refine wpAnyH_take (i := 7) (oi := ⟨_, _, _, _, _, _⟩) (v := ?_) rfl (by kernel_rfl) (by kernel_rfl) (by kernel_rfl) (fun _ _ _ h => h) (Or.inl ⟨by kernel_rfl, ?_⟩) (by assumption) ?_
                    rotate_left
                    · (intro wS hSw; (try dsimp only at hSw); go_simp; try with_reducible rfl)
                    try simp only [Act.put, List.setIfInBounds_toArray, List.set_cons_zero, List.set_cons_succ]
                    refine wpAnyH_take (i := 8) (oi := ⟨_, _, _, _, _, _⟩) (v := ?_) rfl (by kernel_rfl) (by kernel_rfl) (by kernel_rfl) (fun _ _ _ h => h) (Or.inl ⟨by kernel_rfl, ?_⟩) (by assumption) ?_
                    rotate_left
                    · (intro wS hSw; (try dsimp only at hSw); go_simp; try with_reducible rfl)
                    try simp only [Act.put, List.setIfInBounds_toArray, List.set_cons_zero, List.set_cons_succ]
                    refine wpAnyH_ready (rs := [9]) (by kernel_rfl) (by simp) (AllReadyH.cons (o := _) rfl (fun K hK => ?b1y1x9) AllReadyH.nil)
                    go_simp; go_at_call 76; refine (HMK.out _ _).mono ?_; rintro e V ⟨rfl, hbV⟩; have HBV := Lib.hid hbV; have p1 := cell_below hbV s1; have p2 := cell_below hbV s2; have p3 := cell_below hbV s3; clear hbV
                    refine hK.out _ _ ?_ (fun hHeld => ?_)
                    · ((try dsimp only); (first | exact ⟨s1, s2, s3⟩ | exact ⟨hd5, hd1, hdh⟩ | exact ⟨p1, p2, p3⟩ | go_keep))
                    clear hK K; try simp only [Act.put, List.setIfInBounds_toArray, List.set_cons_zero, List.set_cons_succ]
                    refine wpAnyH_take (i := 10) (oi := ⟨_, _, _, _, _, _⟩) (v := ?_) rfl (by kernel_rfl) (by kernel_rfl) (by kernel_rfl) (fun _ _ _ h => h) (Or.inl ⟨by kernel_rfl, ?_⟩) (by assumption) ?_
                    rotate_left
                    · (intro wS hSw; (try dsimp only at hSw); go_simp; try with_reducible rfl)
                    try simp only [Act.put, List.setIfInBounds_toArray, List.set_cons_zero, List.set_cons_succ]
                    refine wpAnyH_take (i := 11) (oi := ⟨_, _, _, _, _, _⟩) (v := ?_) rfl (by kernel_rfl) (by kernel_rfl) (by kernel_rfl) (fun _ _ _ h => h) (Or.inl ⟨by kernel_rfl, ?_⟩) (by assumption) ?_
                    rotate_left
                    · (intro wS hSw; (try dsimp only at hSw); go_simp; try with_reducible rfl)
                    try simp only [Act.put, List.setIfInBounds_toArray, List.set_cons_zero, List.set_cons_succ]
                    refine wpAnyH_take (i := 12) (oi := ⟨_, _, _, _, _, _⟩) (v := ?_) rfl (by kernel_rfl) (by kernel_rfl) (by kernel_rfl) (fun _ _ _ h => h) (Or.inl ⟨by kernel_rfl, ?_⟩) (by assumption) ?_
                    rotate_left
                    · (intro wS hSw; (try dsimp only at hSw); go_simp; try with_reducible rfl)
                    try simp only [Act.put, List.setIfInBounds_toArray, List.set_cons_zero, List.set_cons_succ]
                    refine wpAnyH_take (i := 13) (oi := ⟨_, _, _, _, _, _⟩) (v := ?_) rfl (by kernel_rfl) (by kernel_rfl) (by kernel_rfl) (fun _ _ _ h => h) (Or.inl ⟨by kernel_rfl, ?_⟩) (by assumption) ?_
                    rotate_left
                    · (intro wS hSw; (try dsimp only at hSw); go_simp; try with_reducible rfl)
                    try simp only [Act.put, List.setIfInBounds_toArray, List.set_cons_zero, List.set_cons_succ]
                    refine wpAnyH_take (i := 14) (oi := ⟨_, _, _, _, _, _⟩) (v := undef) rfl (by kernel_rfl) (by kernel_rfl) (by kernel_rfl) (fun _ _ _ h => h) (Or.inr ⟨by kernel_rfl, rfl⟩) (by assumption) ?_
                    try simp only [Act.put, List.setIfInBounds_toArray, List.set_cons_zero, List.set_cons_succ]
                    refine wpAnyH_take (i := 15) (oi := ⟨_, _, _, _, _, _⟩) (v := undef) rfl (by kernel_rfl) (by kernel_rfl) (by kernel_rfl) (fun _ _ _ h => h) (Or.inr ⟨by kernel_rfl, rfl⟩) (by assumption) ?_
                    try simp only [Act.put, List.setIfInBounds_toArray, List.set_cons_zero, List.set_cons_succ]
                    refine wpAnyH_take (i := 16) (oi := ⟨_, _, _, _, _, _⟩) (v := undef) rfl (by kernel_rfl) (by kernel_rfl) (by kernel_rfl) (fun _ _ _ h => h) (Or.inr ⟨by kernel_rfl, rfl⟩) (by assumption) ?_
                    try simp only [Act.put, List.setIfInBounds_toArray, List.set_cons_zero, List.set_cons_succ]
                    refine wpAnyH_take (i := 17) (oi := ⟨_, _, _, _, _, _⟩) (v := undef) rfl (by kernel_rfl) (by kernel_rfl) (by kernel_rfl) (fun _ _ _ h => h) (Or.inr ⟨by kernel_rfl, rfl⟩) (by assumption) ?_
                    try simp only [Act.put, List.setIfInBounds_toArray, List.set_cons_zero, List.set_cons_succ]
                    refine wpAnyH_take (i := 18) (oi := ⟨_, _, _, _, _, _⟩) (v := undef) rfl (by kernel_rfl) (by kernel_rfl) (by kernel_rfl) (fun _ _ _ h => h) (Or.inr ⟨by kernel_rfl, rfl⟩) (by assumption) ?_
                    try simp only [Act.put, List.setIfInBounds_toArray, List.set_cons_zero, List.set_cons_succ]
                    refine wpAnyH_take (i := 19) (oi := ⟨_, _, _, _, _, _⟩) (v := undef) rfl (by kernel_rfl) (by kernel_rfl) (by kernel_rfl) (fun _ _ _ h => h) (Or.inr ⟨by kernel_rfl, rfl⟩) (by assumption) ?_
                    try simp only [Act.put, List.setIfInBounds_toArray, List.set_cons_zero, List.set_cons_succ]
                    refine wpAnyH_take (i := 20) (oi := ⟨_, _, _, _, _, _⟩) (v := undef) rfl (by kernel_rfl) (by kernel_rfl) (by kernel_rfl) (fun _ _ _ h => h) (Or.inr ⟨by kernel_rfl, rfl⟩) (by assumption) ?_
                    try simp only [Act.put, List.setIfInBounds_toArray, List.set_cons_zero, List.set_cons_succ]
                    refine wpAnyH_take (i := 21) (oi := ⟨_, _, _, _, _, _⟩) (v := undef) rfl (by kernel_rfl) (by kernel_rfl) (by kernel_rfl) (fun _ _ _ h => h) (Or.inr ⟨by kernel_rfl, rfl⟩) (by assumption) ?_
                    try simp only [Act.put, List.setIfInBounds_toArray, List.set_cons_zero, List.set_cons_succ]
                    refine wpAnyH_take (i := 22) (oi := ⟨_, _, _, _, _, _⟩) (v := undef) rfl (by kernel_rfl) (by kernel_rfl) (by kernel_rfl) (fun _ _ _ h => h) (Or.inr ⟨by kernel_rfl, rfl⟩) (by assumption) ?_
                    try simp only [Act.put, List.setIfInBounds_toArray, List.set_cons_zero, List.set_cons_succ]
                    refine wpAnyH_take (i := 23) (oi := ⟨_, _, _, _, _, _⟩) (v := undef) rfl (by kernel_rfl) (by kernel_rfl) (by kernel_rfl) (fun _ _ _ h => h) (Or.inr ⟨by kernel_rfl, rfl⟩) (by assumption) ?_
                    try simp only [Act.put, List.setIfInBounds_toArray, List.set_cons_zero, List.set_cons_succ]
                    refine wpAnyH_take (i := 24) (oi := ⟨_, _, _, _, _, _⟩) (v := ?_) rfl (by kernel_rfl) (by kernel_rfl) (by kernel_rfl) (fun _ _ _ h => h) (Or.inl ⟨by kernel_rfl, ?_⟩) (by assumption) ?_
                    rotate_left
                    · (intro wS hSw; (try dsimp only at hSw); go_simp; try with_reducible rfl)
                    try simp only [Act.put, List.setIfInBounds_toArray, List.set_cons_zero, List.set_cons_succ]
                    refine wpAnyH_take (i := 25) (oi := ⟨_, _, _, _, _, _⟩) (v := ?_) rfl (by kernel_rfl) (by kernel_rfl) (by kernel_rfl) (fun _ _ _ h => h) (Or.inl ⟨by kernel_rfl, ?_⟩) (by assumption) ?_
                    rotate_left
                    · (intro wS hSw; (try dsimp only at hSw); go_simp; try with_reducible rfl)
                    try simp only [Act.put, List.setIfInBounds_toArray, List.set_cons_zero, List.set_cons_succ]
                    refine wpAnyH_done (by kernel_rfl) ?_ _
                    go_wp2
                    go_roundw
                    case rel => exact ⟨q + 1, by omega, by go_num, HBQ.out.trans (((below_drewN (Below.refl _ wr) 1).trans HBV.out).mono HBQ.out.size)⟩
                    case measure => simp [intOf]; omega
                · obtain rfl : q = n := by omega
                  clear hbq
                  go_wp2
                  go_roundw
                  case rel => exact ⟨j + 1, by omega, by go_num, HBQ.out⟩
                  case measure => simp [intOf]; omega
            · obtain rfl : j = ms.length := by omega
              clear hbj
              go_wp2
              go_ret
              exact ⟨rfl, HAP.out.1.2.2.then (Touch.of_below (F := fun _ => False) HBJ.out) fun _ _ hf => hf.elim⟩
end Go.Proofs.Ytdmcjomcbhdcbaa

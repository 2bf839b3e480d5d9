/- Lists of bytes that were answered: each is written full, each is grown, all are looked at. -/
import Derived.Test.YtdmcjomcbhdcbaaLi
import Derived.Test.YtdmcjomcbhdcbaaAb
import Derived.Test.YtdmcjomcbhdcbaaFa
namespace Go.Proofs.Ytdmcjomcbhdcbaa
open Go.RowKit Go.Maps

def natV (i : Nat) : Value := .int .i64 (i : Int)
theorem Blk.touch {w w' : World} {g : Nat} {t : TypeId} {cs : Array Value} {F : Nat → Prop} (h : Blk w g t cs) (ht : Touch F w w') (hn : ¬F g) : Blk w' g t cs := (ht.block g h.lt hn).trans h
theorem own_head {w : World} {base n : Nat} {A : Option Addr} {c : Nat} {e : TypeId} {xs : List Value} (h : w.ownsRow base e 1 (.slice A n c) n xs) (hn : 0 < n) : ∃ g, A = some ⟨g, 0, none⟩ := by
  rcases h.2 with ⟨_, h0⟩ | ⟨g', cap, cur, hv, _⟩
  · omega
  · injection hv with e1 e2 e3; exact ⟨g', e1⟩


def markX (i : Nat) : Value := .int .u8 (1 + (i : Int))
def markY (i : Nat) : Value := .int .u8 (128 + (i : Int))
theorem sliceInfo : (Try.prog.info? 22).map (fun i => (i.zero, i.size, i.bytes)) = some (some (.slice none 0 0), 1, 24) := by kernel_rfl
/-- An append to a row of another type leaves the rows of this type. -/
theorem grown_typed {w w' : World} {base n : Nat} {e e' : TypeId} {v : Value} {xs : List Value} (ho : w.ownsRow base e' 1 v n xs) (hg : w.grownBy w' v.ownBlock) (hne : e' ≠ e) (b : Nat) (cur : Array Value) (hb : w.heap[b]? = some (Obj.cells cur e (0, 0))) : w'.heap[b]? = w.heap[b]? := by
  have hlt : b < w.heap.size := by
    rcases Nat.lt_or_ge b w.heap.size with h | h
    · exact h
    · rw [Array.getElem?_eq_none h] at hb; cases hb
  refine hg.block b hlt fun he => ?_
  rcases ho.2 with ⟨rfl, _⟩ | ⟨g, cap, cur', rfl, _, hh, _⟩
  · simp [Value.ownBlock] at he
  · have : g = b := by have := he.symm; simpa [Value.ownBlock] using this
    subst this
    rw [hh] at hb
    injection hb with hb
    injection hb with _ ht
    exact hne ht
theorem row_grew {w w' : World} {base n m col : Nat} {c c' : Nat → Nat} {e e' : TypeId} {v g g' x : Value} {xs ys : List Value} (ho : w.ownsRow base e' 1 v n xs) (hg : Grew w w' c c' col e g g' m ys x) (hr : RowK w c col e g m ys) (hne : e' ≠ e) : w'.ownsRow base e' 1 v n xs :=
  ownsRow_keep ho fun k hk => hg.touch.block k (ho.lt k hk).2 fun he => by
    rcases own_ne ho hr.1 hne with h | h
    · rw [h] at hk; cases hk
    · exact h (hk.trans he.symm)
/-- What the growing holds: the kept lists, whose they are. -/
def Ap2 (rows : List Rw) (w wr : World) (col : Nat → Nat) (ms : List Pc) (s5 s6 : Value) : Prop :=
  Ph2 rows 5 markX markY w wr col ms ∧ wr.ownsRow w.heap.size 22 1 s5 ms.length (ms.map Pc.val) ∧ wr.ownsRow w.heap.size 3 1 s6 ms.length (ms.map fun m => natV m.trk)
set_option maxRecDepth 100000 in
set_option maxHeartbeats 16000000 in
theorem apart_any (rows : List Rw) (h c : Nat) (col : Nat → Nat) (w : World) (hN : rows.length ≤ 100) (hL : ∀ r ∈ rows, r.2.1 ≤ 1000000) (hh : Blk w h 22 (rows.map slV).toArray)
    (h1 : ∀ (j : Nat) (r : Rw), rows[j]? = some r → ∃ xs, RowK w col j 5 (slV r) r.2.1 xs) (nv : Value) (G : Nat → Prop)
    (hnames : ∀ W, Touch (InF rows) w W → Calls Try.prog 53 #[nv] W fun e w' => e = .returned (.bool true) ∧ Touch G W w') :
    Calls Try.prog 21 #[.slice (some ⟨h, 0, none⟩) rows.length c, nv] w fun e w' => e = .returned (.bool true) ∧ Touch (fun k => InF rows k ∨ G k) w w' := by
  have hhF : ¬ InF rows h := by
    rintro ⟨j, r, hr, hb⟩
    obtain ⟨xs, hx⟩ := h1 j r hr
    obtain ⟨cur, hc⟩ := hx.typed hb
    have hh2 : w.heap[h]? = _ := hh
    rw [hh2] at hc
    injection hc with hc
    injection hc with _ ht
    exact absurd ht (by decide)
  have HH : Hid (∀ W, Touch (InF rows) w W → ∀ (i : Nat) (r : Rw), rows[i]? = some r → W.cell? ⟨h, i, none⟩ = some (slV r)) := Lib.hid fun W hW i r hr =>
    ((hh.touch hW hhF).cell i).trans (by rw [List.getElem?_toArray, List.getElem?_map, hr]; rfl)
  have HP0 : Hid (Ph1 rows 5 markX w w col 0 0) := Lib.hid (Ph1.start h1)
  have HL := Lib.hid hL
  have HNM := Lib.hid hnames
  obtain ⟨N, hNe⟩ : ∃ N, N = rows.length := ⟨_, rfl⟩
  rw [← hNe] at hN ⊢
  have HNE := Lib.hid hNe
  have HGET : Hid (∀ i, i < N → ∃ r : Rw, rows[i]? = some r ∧ r.2.1 ≤ 1000000) := Lib.hid fun i hi => ⟨rows[i]'(by omega), List.getElem?_eq_getElem (by omega), hL _ (List.getElem_mem _)⟩
  obtain ⟨i5, hi5, hz0, hz1, hz2⟩ := info_parts byteInfo
  obtain ⟨i33, hi33, hy0, hy1, hy2⟩ := info_parts sliceInfo
  obtain ⟨i3, hi3, hx0, hx1, hx2⟩ := info_parts intInfo
  clear hL hh h1 hNe hhF hnames
  go_enter Try.func21, Try.ntmps21
  go_wp2_with fail
  go_loopw [5, 6] (fun s3 _ wr => ∃ i : Nat, i ≤ N ∧ s3 = .int .i64 i ∧ Ph1 rows 5 markX w wr col i 0) (fun s _ _ => N - (intOf s).toNat)
  case atStart => exact ⟨0, Nat.zero_le _, rfl, HP0.out⟩
  case round =>
    obtain ⟨i, hi, rfl, hp⟩ := hrel
    have HP := Lib.hid hp
    clear hp
    by_cases hlt : i < N
    · obtain ⟨⟨a, L, cc⟩, hr, hLb⟩ := HGET.out i hlt
      have HR := Lib.hid hr
      have hc1 : wr.cell? ⟨h, i, none⟩ = some (.slice a L cc) := HH.out wr HP.out.2 i _ hr
      have hLb2 : L ≤ 1000000 := hLb
      clear hr hLb
      go_wp2_with fail
      go_loopw [6] (fun s4 wx => ∃ k : Nat, k ≤ L ∧ s4 = .int .i64 k ∧ Ph1 rows 5 markX w wx col i k) (fun s _ => L - (intOf s).toNat)
      case atStart => exact ⟨0, Nat.zero_le _, rfl, HP.out⟩
      case round =>
        obtain ⟨k, hk, rfl, hq⟩ := hrel
        have HQ := Lib.hid hq
        clear hc1
        by_cases hk2 : k < L
        · obtain ⟨g, c', he⟩ := hq.form HR.out (by show 0 < L; omega)
          injection he with he1 he2
          injection he2 with _ he3
          subst he1 he3
          have hc2 : wr.cell? ⟨h, i, none⟩ = some (.slice (some ⟨g, 0, none⟩) L cc) := HH.out wr hq.2 i _ HR.out
          obtain ⟨u, hc3⟩ := hq.cell HR.out hk2
          have hfz : ∀ j, wr.frozen? ⟨g, j, none⟩ = false := fun j => hq.frozen HR.out j
          have hmod : (1 + (i : Int)) % 256 = 1 + (i : Int) := by omega
          clear hq
          go_wp2
          go_roundw
          case rel => exact ⟨k + 1, by omega, by go_num, HQ.out.store HR.out hk2⟩
          case measure => simp [intOf]; omega
        · obtain rfl : k = L := by omega
          have hc2 : wr.cell? ⟨h, i, none⟩ = some (.slice a k cc) := HH.out wr hq.2 i _ HR.out
          clear hq
          go_wp2
          go_roundw
          case rel => exact ⟨i + 1, by omega, by go_num, HQ.out.next HR.out rfl⟩
          case measure => simp [intOf]; omega
    · obtain rfl : i = N := by omega
      have HA0 : Hid (Ap2 rows w wr col [] (.slice none 0 0) (.slice none 0 0)) := Lib.hid ⟨Ph2.of_ph1 HP.out (Nat.le_of_eq HNE.out.symm), World.ownsRow_nil _ _ _ _, World.ownsRow_nil _ _ _ _⟩
      go_wp2_with fail
      go_loopw [7, 8, 9, 10, 11] (fun s5 s6 s7 _ _ wx => ∃ (t : Nat) (colx : Nat → Nat) (ms : List Pc) (a5 : Option Addr) (c5 : Nat) (a6 : Option Addr) (c6 : Nat), t ≤ i ∧ s7 = .int .i64 t ∧ s5 = .slice a5 ms.length c5 ∧ s6 = .slice a6 ms.length c6 ∧ Ap2 rows w wx colx ms s5 s6 ∧ (∀ m ∈ ms, m.trk < t) ∧ ms.length ≤ 70 * t) (fun _ _ s _ _ _ => i - (intOf s).toNat)
      case atStart => exact ⟨0, col, [], none, 0, none, 0, Nat.zero_le _, rfl, rfl, rfl, HA0.out, fun m hm => (nomatch hm), Nat.zero_le _⟩
      case round =>
        obtain ⟨t, colx, ms, a5, c5, a6, c6, ht, rfl, rfl, rfl, hap, htr, hml⟩ := hrel
        have HAP := Lib.hid hap
        have HTR := Lib.hid htr
        clear hap htr
        by_cases hlt2 : t < i
        · obtain ⟨r, hr, hLb⟩ := HGET.out t hlt2
          have HR := Lib.hid hr
          obtain ⟨a, L, cc⟩ := r
          have hLb2 : L ≤ 1000000 := hLb
          have hc1 : wr.cell? ⟨h, t, none⟩ = some (.slice a L cc) := HH.out wr HAP.out.1.2.2 t _ hr
          have HT0 : Hid (Trk rows 5 markX markY w wr colx t (a, L, cc) 0 (.slice a L cc) ms) := Lib.hid (Trk.start HAP.out.1 hr HTR.out)
          clear hr hLb
          go_wp2_with fail
          go_loopw [7, 8, 10, 11] (fun s5 s6 s8 s9 wx => ∃ (k : Nat) (colx : Nat → Nat) (ms : List Pc) (a5 : Option Addr) (c5 : Nat) (a6 : Option Addr) (c6 : Nat) (a8 : Option Addr) (c8 : Nat), k ≤ 70 ∧ s9 = .int .i64 k ∧ s8 = .slice a8 (L + k) c8 ∧ s5 = .slice a5 ms.length c5 ∧ s6 = .slice a6 ms.length c6 ∧ Ap2 rows w wx colx ms s5 s6 ∧ Trk rows 5 markX markY w wx colx t (a, L, cc) k s8 ms ∧ ms.length ≤ 70 * t + k) (fun _ _ _ s _ => 70 - (intOf s).toNat)
          case atStart => exact ⟨0, colx, ms, a5, c5, a6, c6, a, cc, Nat.zero_le _, rfl, rfl, rfl, rfl, HAP.out, HT0.out, hml⟩
          case round =>
            obtain ⟨k, colx, ms, a5, c5, a6, c6, a8, c8, hk, rfl, rfl, rfl, rfl, hap, htk, hml⟩ := hrel
            have HAP := Lib.hid hap
            have HTK := Lib.hid htk
            have hws := hap.1.2.2.size
            clear hap htk hc1
            by_cases hk2 : k < 70
            · have hmod : (128 + (t : Int)) % 256 = 128 + (t : Int) := by omega
              by_cases hk16 : k < 16 ∨ k = 69
              · rcases (show k < 16 ∨ (¬k < 16 ∧ k = 69) by omega) with g1 | ⟨g1, g2⟩
                · clear hk16
                  have g1' : (k : Int) < 16 := by omega
                  go_wp2_with (first
                  | (at_builtin; (refine wpList_append_grew _ rfl _ _ 22 rfl colx t 5 i5 _ 1 Try.underlying22 hi5 hz0 hz1 hz2 rfl (.slice a8 (L + k) c8) (L + k) _ rfl (HTK.out.1.below ((Below.refl _ wr).alloc (Nat.le_refl _) _) (fun _ _ => rfl)) ⟨wr.heap.size, 0, none⟩ 1 (markY t) rfl ((blk_last _ _ _ _ rfl).cell 0) rfl (by unfold maxLen; omega) (by omega) ?_; intro v1 w1 col1 hgr; obtain ⟨a9, c9, hv9, _⟩ := own_shape hgr.row.1; subst hv9; have hup := Ph2.grew (HAP.out.1.keep (fun b cur hb => Below.heap_alloc wr _ b (RowK.lt_of hb)) (HAP.out.1.2.2.then (Touch.alloc wr _) (fun _ _ hf => hf))) (HTK.out.keep (fun b cur hb => Below.heap_alloc wr _ b (RowK.lt_of hb))) HR.out hk2 (by rw [alloc_size]; omega) hgr; have HP1 := Lib.hid hup.1; have HT1 := Lib.hid hup.2; have HRK := HTK.out.1.below ((Below.refl _ wr).alloc (Nat.le_refl _) (Obj.cells #[.int .u8 (128 + (t : Int))] 5)) (c' := colx) (fun _ _ => rfl); have HO5 := Lib.hid (row_grew (HAP.out.2.1.alloc _) hgr HRK (by decide)); have HO6 := Lib.hid (row_grew (HAP.out.2.2.alloc _) hgr HRK (by decide)); have hs1 : wr.heap.size ≤ w1.heap.size := (by have := hgr.touch.size; rw [alloc_size] at this; omega); clear hgr hup HRK))
                  | (at_builtin; (refine wpList_append_any _ rfl _ _ 43 rfl w.heap.size 22 i33 _ 1 24 Try.underlying43 hi33 hy0 hy1 hy2 rfl (by omega) (.slice a5 ms.length c5) ms.length _ rfl (HO5.out.alloc _) (w1.heap.size + 1) (some ⟨w1.heap.size, 0, none⟩) 1 1 [.slice a9 (L + k + 1) c9] rfl (reads_blk (t := 22) (blk_last _ _ _ _ rfl) (by omega) rfl) (by intro u hu; simp at hu; subst hu; rfl) (by unfold maxLen; omega) (by omega) (by rw [alloc_size]; omega) ?_; intro v2 w2 hown hg hat; obtain ⟨a10, c10, hv10, _⟩ := own_shape hown; subst hv10; have HO7 := Lib.hid hown; have HO8 := Lib.hid (World.ownsRow.kept (HO6.out.alloc _) hg (own_ne HO6.out HO5.out (by decide))); have HP2 := Lib.hid ((HP1.out.keep (fun b cur hb => Below.heap_alloc w1 _ b (RowK.lt_of hb)) (HP1.out.2.2.then (Touch.alloc w1 _) (fun _ _ hf => hf))).keep (fun b cur hb => grown_typed (HO5.out.alloc _) hg (by decide) b cur hb) ((HP1.out.2.2.then (Touch.alloc w1 _) (fun _ _ hf => hf)).then (Touch.of_grown (F := fun b => w.heap.size ≤ b) hg (fun b hb => (HO5.out.lt b hb).1)) (fun b hb hf => absurd hb (by omega)))); have HT2 := Lib.hid ((HT1.out.keep (fun b cur hb => Below.heap_alloc w1 _ b (RowK.lt_of hb))).keep (fun b cur hb => grown_typed (HO5.out.alloc _) hg (by decide) b cur hb)); have hs2 : w1.heap.size ≤ w2.heap.size := (by have := hg.size; rw [alloc_size] at this; omega); clear hown hg hat))
                  | (at_builtin; (refine wpList_append_any _ rfl _ _ 65 rfl w.heap.size 3 i3 _ 1 8 Try.underlying65 hi3 hx0 hx1 hx2 rfl (by omega) (.slice a6 ms.length c6) ms.length _ rfl (HO8.out.alloc _) (w2.heap.size + 1) (some ⟨w2.heap.size, 0, none⟩) 1 1 [natV t] rfl (reads_blk (t := 3) (blk_last _ _ _ _ rfl) (by omega) rfl) (by intro u hu; simp at hu; subst hu; rfl) (by unfold maxLen; omega) (by omega) (by rw [alloc_size]; omega) ?_; intro v3 w3 hown hg hat; obtain ⟨a11, c11, hv11, _⟩ := own_shape hown; subst hv11; have HO9 := Lib.hid hown; have HO10 := Lib.hid (World.ownsRow.kept (HO7.out.alloc _) hg (own_ne HO7.out HO8.out (by decide))); have HP3 := Lib.hid ((HP2.out.keep (fun b cur hb => Below.heap_alloc w2 _ b (RowK.lt_of hb)) (HP2.out.2.2.then (Touch.alloc w2 _) (fun _ _ hf => hf))).keep (fun b cur hb => grown_typed (HO8.out.alloc _) hg (by decide) b cur hb) ((HP2.out.2.2.then (Touch.alloc w2 _) (fun _ _ hf => hf)).then (Touch.of_grown (F := fun b => w.heap.size ≤ b) hg (fun b hb => (HO8.out.lt b hb).1)) (fun b hb hf => absurd hb (by omega)))); have HT3 := Lib.hid ((HT2.out.keep (fun b cur hb => Below.heap_alloc w2 _ b (RowK.lt_of hb))).keep (fun b cur hb => grown_typed (HO8.out.alloc _) hg (by decide) b cur hb)); clear hown hg hat)))
                  go_roundw
                  case rel =>
                    refine ⟨k + 1, col1, ms ++ [⟨t, .slice a9 (L + k + 1) c9, L + k + 1⟩], a10, c10, a11, c11, a9, c9, by omega, by go_num, rfl, by rw [List.length_append]; rfl, by rw [List.length_append]; rfl, ⟨Ph2.add (k := k + 1) HP3.out HT3.out HR.out (by omega), ?_, ?_⟩, Trk.add (k := k + 1) HT3.out, by rw [List.length_append, List.length_singleton]; omega⟩
                    · rw [List.length_append, List.map_append]; exact HO10.out
                    · rw [List.length_append, List.map_append]; exact HO9.out
                  case measure => simp [intOf]; omega
                · clear hk16
                  have g1' : ¬ (k : Int) < 16 := by omega
                  have g2' : ((k : Int) == 69) = true := by simp; omega
                  clear g1 g2
                  go_wp2_with (first
                  | (at_builtin; (refine wpList_append_grew _ rfl _ _ 22 rfl colx t 5 i5 _ 1 Try.underlying22 hi5 hz0 hz1 hz2 rfl (.slice a8 (L + k) c8) (L + k) _ rfl (HTK.out.1.below ((Below.refl _ wr).alloc (Nat.le_refl _) _) (fun _ _ => rfl)) ⟨wr.heap.size, 0, none⟩ 1 (markY t) rfl ((blk_last _ _ _ _ rfl).cell 0) rfl (by unfold maxLen; omega) (by omega) ?_; intro v1 w1 col1 hgr; obtain ⟨a9, c9, hv9, _⟩ := own_shape hgr.row.1; subst hv9; have hup := Ph2.grew (HAP.out.1.keep (fun b cur hb => Below.heap_alloc wr _ b (RowK.lt_of hb)) (HAP.out.1.2.2.then (Touch.alloc wr _) (fun _ _ hf => hf))) (HTK.out.keep (fun b cur hb => Below.heap_alloc wr _ b (RowK.lt_of hb))) HR.out hk2 (by rw [alloc_size]; omega) hgr; have HP1 := Lib.hid hup.1; have HT1 := Lib.hid hup.2; have HRK := HTK.out.1.below ((Below.refl _ wr).alloc (Nat.le_refl _) (Obj.cells #[.int .u8 (128 + (t : Int))] 5)) (c' := colx) (fun _ _ => rfl); have HO5 := Lib.hid (row_grew (HAP.out.2.1.alloc _) hgr HRK (by decide)); have HO6 := Lib.hid (row_grew (HAP.out.2.2.alloc _) hgr HRK (by decide)); have hs1 : wr.heap.size ≤ w1.heap.size := (by have := hgr.touch.size; rw [alloc_size] at this; omega); clear hgr hup HRK))
                  | (at_builtin; (refine wpList_append_any _ rfl _ _ 43 rfl w.heap.size 22 i33 _ 1 24 Try.underlying43 hi33 hy0 hy1 hy2 rfl (by omega) (.slice a5 ms.length c5) ms.length _ rfl (HO5.out.alloc _) (w1.heap.size + 1) (some ⟨w1.heap.size, 0, none⟩) 1 1 [.slice a9 (L + k + 1) c9] rfl (reads_blk (t := 22) (blk_last _ _ _ _ rfl) (by omega) rfl) (by intro u hu; simp at hu; subst hu; rfl) (by unfold maxLen; omega) (by omega) (by rw [alloc_size]; omega) ?_; intro v2 w2 hown hg hat; obtain ⟨a10, c10, hv10, _⟩ := own_shape hown; subst hv10; have HO7 := Lib.hid hown; have HO8 := Lib.hid (World.ownsRow.kept (HO6.out.alloc _) hg (own_ne HO6.out HO5.out (by decide))); have HP2 := Lib.hid ((HP1.out.keep (fun b cur hb => Below.heap_alloc w1 _ b (RowK.lt_of hb)) (HP1.out.2.2.then (Touch.alloc w1 _) (fun _ _ hf => hf))).keep (fun b cur hb => grown_typed (HO5.out.alloc _) hg (by decide) b cur hb) ((HP1.out.2.2.then (Touch.alloc w1 _) (fun _ _ hf => hf)).then (Touch.of_grown (F := fun b => w.heap.size ≤ b) hg (fun b hb => (HO5.out.lt b hb).1)) (fun b hb hf => absurd hb (by omega)))); have HT2 := Lib.hid ((HT1.out.keep (fun b cur hb => Below.heap_alloc w1 _ b (RowK.lt_of hb))).keep (fun b cur hb => grown_typed (HO5.out.alloc _) hg (by decide) b cur hb)); have hs2 : w1.heap.size ≤ w2.heap.size := (by have := hg.size; rw [alloc_size] at this; omega); clear hown hg hat))
                  | (at_builtin; (refine wpList_append_any _ rfl _ _ 65 rfl w.heap.size 3 i3 _ 1 8 Try.underlying65 hi3 hx0 hx1 hx2 rfl (by omega) (.slice a6 ms.length c6) ms.length _ rfl (HO8.out.alloc _) (w2.heap.size + 1) (some ⟨w2.heap.size, 0, none⟩) 1 1 [natV t] rfl (reads_blk (t := 3) (blk_last _ _ _ _ rfl) (by omega) rfl) (by intro u hu; simp at hu; subst hu; rfl) (by unfold maxLen; omega) (by omega) (by rw [alloc_size]; omega) ?_; intro v3 w3 hown hg hat; obtain ⟨a11, c11, hv11, _⟩ := own_shape hown; subst hv11; have HO9 := Lib.hid hown; have HO10 := Lib.hid (World.ownsRow.kept (HO7.out.alloc _) hg (own_ne HO7.out HO8.out (by decide))); have HP3 := Lib.hid ((HP2.out.keep (fun b cur hb => Below.heap_alloc w2 _ b (RowK.lt_of hb)) (HP2.out.2.2.then (Touch.alloc w2 _) (fun _ _ hf => hf))).keep (fun b cur hb => grown_typed (HO8.out.alloc _) hg (by decide) b cur hb) ((HP2.out.2.2.then (Touch.alloc w2 _) (fun _ _ hf => hf)).then (Touch.of_grown (F := fun b => w.heap.size ≤ b) hg (fun b hb => (HO8.out.lt b hb).1)) (fun b hb hf => absurd hb (by omega)))); have HT3 := Lib.hid ((HT2.out.keep (fun b cur hb => Below.heap_alloc w2 _ b (RowK.lt_of hb))).keep (fun b cur hb => grown_typed (HO8.out.alloc _) hg (by decide) b cur hb)); clear hown hg hat)))
                  go_roundw
                  case rel =>
                    refine ⟨k + 1, col1, ms ++ [⟨t, .slice a9 (L + k + 1) c9, L + k + 1⟩], a10, c10, a11, c11, a9, c9, by omega, by go_num, rfl, by rw [List.length_append]; rfl, by rw [List.length_append]; rfl, ⟨Ph2.add (k := k + 1) HP3.out HT3.out HR.out (by omega), ?_, ?_⟩, Trk.add (k := k + 1) HT3.out, by rw [List.length_append, List.length_singleton]; omega⟩
                    · rw [List.length_append, List.map_append]; exact HO10.out
                    · rw [List.length_append, List.map_append]; exact HO9.out
                  case measure => simp [intOf]; omega
              · have g1 : ¬ (k : Int) < 16 := by omega
                have g2 : ((k : Int) == 69) = false := by simp; omega
                clear hk16
                go_wp2_with (at_builtin; (refine wpList_append_grew _ rfl _ _ 22 rfl colx t 5 i5 _ 1 Try.underlying22 hi5 hz0 hz1 hz2 rfl (.slice a8 (L + k) c8) (L + k) _ rfl (HTK.out.1.below ((Below.refl _ wr).alloc (Nat.le_refl _) _) (fun _ _ => rfl)) ⟨wr.heap.size, 0, none⟩ 1 (markY t) rfl ((blk_last _ _ _ _ rfl).cell 0) rfl (by unfold maxLen; omega) (by omega) ?_; intro v1 w1 col1 hgr; obtain ⟨a9, c9, hv9, _⟩ := own_shape hgr.row.1; subst hv9; have hup := Ph2.grew (HAP.out.1.keep (fun b cur hb => Below.heap_alloc wr _ b (RowK.lt_of hb)) (HAP.out.1.2.2.then (Touch.alloc wr _) (fun _ _ hf => hf))) (HTK.out.keep (fun b cur hb => Below.heap_alloc wr _ b (RowK.lt_of hb))) HR.out hk2 (by rw [alloc_size]; omega) hgr; have HP1 := Lib.hid hup.1; have HT1 := Lib.hid hup.2; have HRK := HTK.out.1.below ((Below.refl _ wr).alloc (Nat.le_refl _) (Obj.cells #[.int .u8 (128 + (t : Int))] 5)) (c' := colx) (fun _ _ => rfl); have HO5 := Lib.hid (row_grew (HAP.out.2.1.alloc _) hgr HRK (by decide)); have HO6 := Lib.hid (row_grew (HAP.out.2.2.alloc _) hgr HRK (by decide)); have hs1 : wr.heap.size ≤ w1.heap.size := (by have := hgr.touch.size; rw [alloc_size] at this; omega); clear hgr hup HRK))
                go_roundw
                case rel => exact ⟨k + 1, col1, ms, a5, c5, a6, c6, a9, c9, by omega, by go_num, rfl, rfl, rfl, ⟨HP1.out, HO5.out, HO6.out⟩, HT1.out, by omega⟩
                case measure => simp [intOf]; omega
            · obtain rfl : k = 70 := by omega
              go_wp2
              go_roundw
              case rel => exact ⟨t + 1, colx, ms, a5, c5, a6, c6, by omega, by go_num, rfl, rfl, HAP.out, fun m hm => by have := HTK.out.2.2.1 m hm; omega, by omega⟩
              case measure => simp [intOf]; omega
        · obtain rfl : t = i := by omega
          go_wp2_with fail
          go_loop [12, 13, 14, 15] (fun s10 _ _ _ => ∃ j : Nat, j ≤ ms.length ∧ s10 = .int .i64 j) (fun s _ _ _ => ms.length - (intOf s).toNat)
          case atStart => exact ⟨0, Nat.zero_le _, rfl⟩
          case round =>
            obtain ⟨j, hj, rfl⟩ := hrel
            by_cases hj2 : j < ms.length
            · obtain ⟨m, hm⟩ : ∃ m, ms[j]? = some m := ⟨_, List.getElem?_eq_getElem hj2⟩
              have HM := Lib.hid hm
              have hmem : m ∈ ms := List.mem_of_getElem? hm
              have hok := HAP.out.1.2.1 m hmem
              have htl := HTR.out m hmem
              obtain ⟨u, v, n⟩ := m
              obtain ⟨r, hr, _, hnr, am, cm, hv⟩ := hok
              have hnb : n ≤ 1000070 := by
                have h1 := HL.out r (List.mem_of_getElem? hr)
                have h2 : n ≤ r.2.1 + 70 := hnr
                omega
              have hv' : v = .slice am n cm := hv
              subst hv'
              have HOK := Lib.hid (HAP.out.1.2.1 _ hmem)
              have HR := Lib.hid hr
              have htl2 : u < t := htl
              have hrow := HAP.out.2.1
              have hrow6 := HAP.out.2.2
              obtain ⟨b5, e5⟩ := own_head hrow (by omega)
              obtain ⟨b6, e6⟩ := own_head hrow6 (by omega)
              subst e5 e6
              have hc5 : wr.cell? ⟨b5, j, none⟩ = some (.slice am n cm) := (hrow.cellAt j (by omega)).trans (by rw [List.getElem?_map, hm]; rfl)
              have hc6 : wr.cell? ⟨b6, j, none⟩ = some (.int .i64 (u : Int)) := (hrow6.cellAt j (by omega)).trans (by rw [List.getElem?_map, hm]; rfl)
              obtain ⟨a, L, cc⟩ := r
              have hch : wr.cell? ⟨h, u, none⟩ = some (.slice a L cc) := HH.out wr HAP.out.1.2.2 u _ hr
              clear hm hmem htl hr hrow hrow6 hnr
              go_wp2_with fail
              go_loop [14, 15] (fun s12 _ => ∃ q : Nat, q ≤ n ∧ s12 = .int .i64 q) (fun s _ => n - (intOf s).toNat)
              case atStart => exact ⟨0, Nat.zero_le _, rfl⟩
              case round =>
                obtain ⟨q, hq, rfl⟩ := hrel
                by_cases hq2 : q < n
                · obtain ⟨b, cb, hvb, hcb⟩ := HOK.out.read HR.out hq2
                  have hvb' : Value.slice am n cm = .slice (some ⟨b, 0, none⟩) n cb := hvb
                  injection hvb' with e1 _ e3
                  subst e1 e3
                  have hm1 : (1 + (u : Int)) % 256 = 1 + (u : Int) := by omega
                  have hm2 : (128 + (u : Int)) % 256 = 128 + (u : Int) := by omega
                  clear hvb
                  by_cases hq3 : q < L
                  · obtain ⟨bb, he, hcr⟩ := HAP.out.1.read HR.out (q := q) hq3
                    injection he with he1 _
                    subst he1
                    have hcb' : wr.cell? ⟨b, q, none⟩ = some (.int .u8 (1 + (u : Int))) := hcb.trans (by rw [if_pos (show q < (some (⟨bb, 0, none⟩ : Addr), L, cc).2.1 from hq3)]; rfl)
                    have hcr' : wr.cell? ⟨bb, q, none⟩ = some (.int .u8 (1 + (u : Int))) := hcr
                    clear hcb hcr
                    go_wp2
                    go_round
                    case rel => exact ⟨q + 1, by omega, by go_num⟩
                    case measure => simp [intOf]; omega
                  · have hcb' : wr.cell? ⟨b, q, none⟩ = some (.int .u8 (128 + (u : Int))) := hcb.trans (by rw [if_neg (show ¬ q < (a, L, cc).2.1 from hq3)]; rfl)
                    clear hcb
                    go_wp2
                    go_round
                    case rel => exact ⟨q + 1, by omega, by go_num⟩
                    case measure => simp [intOf]; omega
                · obtain rfl : q = n := by omega
                  go_wp2
                  go_round
                  case rel => exact ⟨j + 1, by omega, by go_num⟩
                  case measure => simp [intOf]; omega
            · obtain rfl : j = ms.length := by omega
              go_wp2_with fail
              refine (HNM.out _ HAP.out.1.2.2).mono ?_
              rintro e w9 ⟨rfl, ht9⟩
              have HT9 := Lib.hid ht9
              clear ht9
              go_wp2
              go_ret
              exact ⟨rfl, (HAP.out.1.2.2.mono fun k _ hk => .inl hk).then HT9.out fun k _ hk => .inr hk⟩
end Go.Proofs.Ytdmcjomcbhdcbaa

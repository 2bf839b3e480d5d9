/- cairnref14.SameSeen of two that show the same.; The layer over no drive.; BayWalks, the plain law: a wound that refuses nothing; keys rise; looks of one file are the same; a glance beside a look; rows of pairs. -/
import Derived.Test.YtcbebefdbdppdaaGreatM33
import Derived.Test.YtcbebefdbdppdaaGreatM34
import Derived.Sort.Walk0
namespace Go.Proofs.YtcbebefdbdppdaaGreat
open Go.RowKit Go.Maps
def seenV (k : Int) (CS : Array Value) (e : Int) : Array Value := (Value.int .i64 k :: (CS.toList ++ [Value.int .i64 e])).toArray
theorem seenV_0 (k : Int) (CS : Array Value) (e : Int) : (seenV k CS e)[0]? = some (.int .i64 k) := rfl
theorem seenV_18 (k : Int) {CS : Array Value} (e : Int) (h : CS.size = 17) : (seenV k CS e)[18]? = some (.int .i64 e) := by
  unfold seenV
  rw [List.getElem?_toArray, List.getElem?_cons_succ, List.getElem?_append_right (by simp [h])]
  simp [h]
theorem load_sh_inV {w : World} {g : Nat} {t : TypeId} {k e : Int} {CS : Array Value} (hg : Blk w g t (seenV k CS e)) (hl : CS.size = 17) : (loadVar 31 ⟨g, 1, none⟩).run Tryz.prog w = .ok (.agg CS) w := by
  have e1 : seenV k CS e = ([Value.int .i64 k] ++ CS.toList ++ [Value.int .i64 e]).toArray := rfl
  rw [e1] at hg
  have h := run_loadVar_mid (P := Tryz.prog) 31 hg Tryz.underlying31 shardInfo rfl (by rw [Array.length_toList, hl])
  rw [Array.toArray_toList] at h
  exact h
theorem BlksAt.upto {w : World} {B B' n : Nat} {A : Option Addr} {l : List (List UInt8)} (h : BlksAt w B A n l) (hB : B ≤ B') : BlksAt w B' A n l := by
  obtain ⟨vs, h1, h2⟩ := h.rows
  exact ⟨h.len, vs, h1.more hB, fun j x hx => by obtain ⟨A', c', e, hr⟩ := h2 j x hx; exact ⟨A', c', e, hr.more hB⟩⟩
set_option maxRecDepth 100000 in
set_option maxHeartbeats 4000000 in
theorem sameseen_yes (k e : Int) (h : Hd) (hs : h.st.length = 8) (l : List (List UInt8)) (A1 A2 : Option Addr) (n c1 c2 : Nat) (w : World) (hn : n ≤ 4096) (hb1 : BlksAt w w.heap.size A1 n l) (hb2 : BlksAt w w.heap.size A2 n l) :
    Calls Tryz.prog 26 #[.agg (seenV k ((hdCells h).push (.slice A1 n c1)) e), .agg (seenV k ((hdCells h).push (.slice A2 n c2)) e)] w fun r w' => r = .returned (.bool true) ∧ Below w.heap.size w w' := by
  have HSM := Lib.hid fun (W : World) => rsame_yes h hs l A1 A2 n c1 c2 W hn
  have hcs := hdCells_size hs
  unfold shV at HSM
  generalize hdCells h = HC at *
  have HS1 : Hid ((HC.push (.slice A1 n c1)).size = 17) := Lib.hid (by rw [Array.size_push, hcs])
  have HS2 : Hid ((HC.push (.slice A2 n c2)).size = 17) := Lib.hid (by rw [Array.size_push, hcs])
  obtain ⟨S1, h1⟩ : ∃ S1, S1 = HC.push (.slice A1 n c1) := ⟨_, rfl⟩
  obtain ⟨S2, h2⟩ : ∃ S2, S2 = HC.push (.slice A2 n c2) := ⟨_, rfl⟩
  rw [← h1] at HSM HS1 ⊢
  rw [← h2] at HSM HS2 ⊢
  have HB1 := Lib.hid hb1
  have HB2 := Lib.hid hb2
  clear h1 h2 hcs hn hb1 hb2 hs
  obtain ⟨W2, hW2⟩ : ∃ W2, W2 = (w.alloc (.cells (seenV k S1 e) 57)).alloc (.cells (seenV k S2 e) 57) := ⟨_, rfl⟩
  have HK1 : Hid (Blk W2 w.heap.size 57 (seenV k S1 e)) := Lib.hid (by rw [hW2]; exact (Blk.new _ _ _).alloc _)
  have HK2 : Hid (Blk W2 (w.heap.size + 1) 57 (seenV k S2 e)) := Lib.hid (by rw [hW2]; exact blk_last _ _ _ _ (by rw [alloc_size]))
  have HBL : Hid (Below w.heap.size w W2) := Lib.hid (by rw [hW2]; exact ((Below.refl _ w).alloc (Nat.le_refl _) _).alloc (by rw [alloc_size]; omega) _)
  have y0 := HK1.out.cell 0
  have z0 := HK2.out.cell 0
  have y18 := HK1.out.cell 18
  have z18 := HK2.out.cell 18
  rw [seenV_0] at y0 z0
  rw [seenV_18 k e HS1.out] at y18
  rw [seenV_18 k e HS2.out] at z18
  have hL1 := load_sh_inV HK1.out HS1.out
  have hL2 := load_sh_inV HK2.out HS2.out
  rw [hW2] at y0 z0 y18 z18 hL1 hL2
  go_enter Tryz.func26, Tryz.ntmps26
  go_wp2_with (first
    | (refine wpList_load_if 31 _ rfl (by rfl) ⟨w.heap.size, 1, none⟩ rfl (.agg S1) hL1 ?_)
    | (refine wpList_load_if 31 _ rfl (by rfl) ⟨w.heap.size + 1, 1, none⟩ rfl (.agg S2) hL2 ?_)
    | fail)
  rw [← hW2]
  refine (HSM.out W2 ((HB1.out.below HBL.out).upto HBL.out.size) ((HB2.out.below HBL.out).upto HBL.out.size)).mono ?_
  rintro r w3 ⟨rfl, hb3⟩
  have HB3 : Hid (Below w.heap.size w w3) := Lib.hid (HBL.out.trans (hb3.mono HBL.out.size))
  clear hb3 hW2 y0 z0 y18 z18 hL1 hL2
  go_wp2
  go_ret
  exact ⟨rfl, HB3.out⟩
end Go.Proofs.YtcbebefdbdppdaaGreat
namespace Go.Proofs.YtcbebefdbdppdaaGreat
open Go.RowKit Go.Maps
theorem keys_nil (w : World) : Calls Tryz.prog 23 #[.nilIface] w fun e w' => e = .returned (.tuple #[.slice none 0 0, .int .i64 1]) ∧ w = w' := by
  go_enter Tryz.func23, Tryz.ntmps23
  go_wp2
  go_ret2
  exact ⟨rfl, rfl⟩
end Go.Proofs.YtcbebefdbdppdaaGreat
namespace Go.Proofs.YtcbebefdbdppdaaGreat
open Go.RowKit Go.Maps
theorem calm_struckN {X : Wnd} (h : Calm X) : ∀ i, Calm (struckN i X)
  | 0 => h
  | i + 1 => by
    show Calm ((struckN i X).struck false).1
    rw [(calm_struckN h i).struck]
    exact (calm_struckN h i).count
theorem calm_next {X : Wnd} (h : Calm X) (i : Nat) : (struckN i X).count = struckN (i + 1) X := by
  show _ = ((struckN i X).struck false).1
  rw [(calm_struckN h i).struck]
theorem struckN_add (X : Wnd) (i : Nat) : ∀ j, struckN j (struckN i X) = struckN (i + j) X
  | 0 => rfl
  | j + 1 => by
    show ((struckN j (struckN i X)).struck false).1 = ((struckN (i + j) X).struck false).1
    rw [struckN_add X i j]
theorem calm_reads {X : Wnd} (h : Calm X) (i : Nat) {α : Type} (r : List α × Int) : wread (struckN i X) r = (struckN (i + 1) X, r.1, r.2) := by
  rw [(calm_struckN h i).read, calm_next h i]
theorem underK_rise {names : List (List UInt8)} {i : Nat} {a b : List UInt8} (ha : (underK names)[i]? = some a) (hb : (underK names)[i + 1]? = some b) : a < b := by
  obtain ⟨h1, h2⟩ := List.getElem?_eq_some_iff.1 ha
  obtain ⟨h3, h4⟩ := List.getElem?_eq_some_iff.1 hb
  have hp : (underK names).Pairwise (fun a b => leB a b = true) := List.pairwise_mergeSort leB_trans leB_total _
  have hle := List.pairwise_iff_getElem.1 hp i (i + 1) h1 h3 (Nat.lt_succ_self i)
  have hne := List.pairwise_iff_getElem.1 (underK_nodup names) i (i + 1) h1 h3 (Nat.lt_succ_self i)
  rw [h2, h4] at hle hne
  refine List.not_le.1 fun h => hne ?_
  exact List.le_antisymm (of_decide_eq_true hle) h
theorem keysL_rise {names : List (List UInt8)} {i : Nat} {a b : List UInt8} (ha : (keysL names 0)[i]? = some a) (hb : (keysL names 0)[i + 1]? = some b) : Op.bytesLess a b = true := by
  unfold keysL at ha hb
  rw [if_pos rfl] at ha hb
  rw [bytesLess_eq]
  exact decide_eq_true (underK_rise ha hb)
theorem keysL_len {l : List (List UInt8)} {x : Int} {k : List UInt8} (h : k ∈ keysL l x) : 1 ≤ k.length ∧ k.length ≤ 255 := by
  unfold keysL at h
  split at h
  · obtain ⟨nm, _, hk⟩ := mem_underK.1 h
    exact keyN_length hk
  · cases h
def SameV (w : World) (B : Nat) (C1 C2 : Array Value) : Prop :=
  ∃ (k e : Int) (h : Hd) (l : List (List UInt8)) (A1 A2 : Option Addr) (n c1 c2 : Nat), h.st.length = 8 ∧ n ≤ 4096 ∧ C1 = seenV k ((hdCells h).push (.slice A1 n c1)) e ∧ C2 = seenV k ((hdCells h).push (.slice A2 n c2)) e ∧ BlksAt w B A1 n l ∧ BlksAt w B A2 n l
theorem cutOf_len {ds : List UInt8} (h : parseE ds = 0) : (cutOf ds).length ≤ 4096 := by
  have ho : Hd.openE ds = 0 := by
    unfold parseE at h
    split at h
    · rename_i h1; exact absurd h h1
    · rename_i h1; simpa using h1
  have hf := Hd.fit_of (open_fixed ho).2.2.1
  have hl := (fit_lens hf).1
  have he : ∀ (f : Int) (i : Nat) (b : List UInt8) (L : List Nat), (cutB (Hd.ofB ds).sum i b L).length = L.length := fun f i b L => by
    induction L generalizing i b with
    | nil => rfl
    | cons x r ih =>
      unfold cutB
      split
      · rw [List.length_cons, List.length_cons, ih]
      · rw [List.length_cons, List.length_cons, ih]
  unfold cutOf
  rw [he 0]
  exact hl
theorem sameV_of {w : World} {b1 b2 : Nat} {ds : List UInt8} {x : Int} {want : Hd} {C1 C2 : Array Value} (h1 : LookAt w b1 ds x want (.agg C1)) (h2 : LookAt w b2 ds x want (.agg C2)) : SameV w w.heap.size C1 C2 := by
  unfold LookAt at h1 h2
  split at h1
  · rename_i hc
    rw [if_pos hc] at h2
    obtain ⟨s1, e1, o1⟩ := h1
    obtain ⟨s2, e2, o2⟩ := h2
    have hst : (Hd.ofB ds).st.length = 8 := by
      have h9 := parseH_st ds
      unfold parseH at h9
      rwa [if_pos hc.2.1] at h9
    obtain ⟨v1, r1, _⟩ := o1.row
    obtain ⟨v2, r2, _⟩ := o2.row
    obtain ⟨A1, c1, rfl, _⟩ := own_shape r1
    obtain ⟨A2, c2, rfl, _⟩ := own_shape r2
    injection e1 with e1
    injection e2 with e2
    exact ⟨2, 0, Hd.ofB ds, (cutOf ds).map (·.1), A1, A2, _, c1, c2, hst, by rw [List.length_map]; exact cutOf_len hc.2.1, e1, e2, o1.reads rfl, o2.reads rfl⟩
  · rename_i hc
    rw [if_neg hc] at h2
    injection h1 with h1
    injection h2 with h2
    have hn : BlksAt w w.heap.size none 0 [] := (BlkOwn.nil w 0).reads rfl
    exact ⟨seenK x, seenE x, Hd.zero, [], none, none, 0, 0, 0, rfl, Nat.zero_le _, h1, h2, hn, hn⟩
theorem sameV_yes {C1 C2 : Array Value} {w : World} (h : SameV w w.heap.size C1 C2) : Calls Tryz.prog 26 #[.agg C1, .agg C2] w fun r w' => r = .returned (.bool true) ∧ Below w.heap.size w w' := by
  obtain ⟨k, e, h, l, A1, A2, n, c1, c2, hs, hn, rfl, rfl, b1, b2⟩ := h
  exact sameseen_yes k e h hs l A1 A2 n c1 c2 w hn b1 b2
theorem SameV.below {w w' : World} {B : Nat} {C1 C2 : Array Value} (h : SameV w B C1 C2) (hb : Below B w w') : SameV w' B C1 C2 := by
  obtain ⟨k, e, h, l, A1, A2, n, c1, c2, hs, hn, e1, e2, b1, b2⟩ := h
  exact ⟨k, e, h, l, A1, A2, n, c1, c2, hs, hn, e1, e2, b1.below hb, b2.below hb⟩
theorem SameV.upto {w : World} {B B' : Nat} {C1 C2 : Array Value} (h : SameV w B C1 C2) (hB : B ≤ B') : SameV w B' C1 C2 := by
  obtain ⟨k, e, h, l, A1, A2, n, c1, c2, hs, hn, e1, e2, b1, b2⟩ := h
  exact ⟨k, e, h, l, A1, A2, n, c1, c2, hs, hn, e1, e2, b1.upto hB, b2.upto hB⟩
theorem SameV.size {w : World} {B : Nat} {C1 C2 : Array Value} (h : SameV w B C1 C2) : C1.size = 19 ∧ C2.size = 19 := by
  obtain ⟨k, e, h, l, A1, A2, n, c1, c2, hs, hn, rfl, rfl, _, _⟩ := h
  have h9 := hdCells_size hs
  exact ⟨by simp [seenV, h9], by simp [seenV, h9]⟩
theorem look_glance {w : World} {b : Nat} {ds : List UInt8} {x : Int} {want : Hd} {C1 C2 : Array Value} (h1 : LookAt w b ds x want (.agg C1)) (h2 : GlanceAt ds x want (.agg C2)) :
    (∃ (h : Hd) (s1 s2 : Value), h.st.length = 8 ∧ C1 = seenV 2 ((hdCells h).push s1) 0 ∧ C2 = seenV 2 ((hdCells h).push s2) 0) ∨
    (∃ (h : Hd) (s2 : Value), h.st.length = 8 ∧ C1 = seen0 3 0 ∧ C2 = seenV 2 ((hdCells h).push s2) 0) ∨ (∃ k e : Int, (k = 1 ∨ k = 3 ∨ k = 4) ∧ C1 = seen0 k e ∧ C2 = seen0 k e) := by
  unfold LookAt at h1
  unfold GlanceAt at h2
  split at h1
  · rename_i hc
    obtain ⟨s1, e1, o1⟩ := h1
    have hp := hc.2.1
    have ho : Hd.openE ds = 0 := by
      unfold parseE at hp
      split at hp
      · rename_i h1; exact absurd hp h1
      · rename_i h1; simpa using h1
    have hl : (Hd.ofB ds).len = ds.length := by
      unfold parseE at hp
      rw [if_neg (by rw [ho]; decide)] at hp
      split at hp
      · cases hp
      · split at hp
        · cases hp
        · omega
    rw [if_pos ⟨hc.1, ho, hc.2.2, hl⟩] at h2
    injection e1 with e1
    injection h2 with h2
    exact .inl ⟨Hd.ofB ds, s1, _, (open_fixed ho).2.2.2.2.2, e1, h2⟩
  · rename_i hc
    injection h1 with h1
    split at h2
    · rename_i hg
      injection h2 with h2
      refine .inr (.inl ⟨Hd.ofB ds, _, (open_fixed hg.2.1).2.2.2.2.2, ?_, h2⟩)
      rw [h1, hg.1]
      rfl
    · injection h2 with h2
      refine .inr (.inr ⟨seenK x, seenE x, ?_, h1, h2⟩)
      unfold seenK
      split
      · exact .inr (.inl rfl)
      · split
        · exact .inl rfl
        · exact .inr (.inr rfl)
def PairRow (w : World) (g : Nat) (us : List (List UInt8 × Array Value)) : Prop :=
  (us ≠ [] → g < w.heap.size) ∧ ∀ (j : Nat) (p : List UInt8 × Array Value), us[j]? = some p → ∀ (i : Nat) (u : Value), (pairC (strV p.1) p.2)[i]? = some u → w.cell? ⟨g, j * 20 + i, none⟩ = some u
theorem PairRow.keep {w w' : World} {g : Nat} {us : List (List UInt8 × Array Value)} (h : PairRow w g us) (hk : us ≠ [] → w'.heap[g]? = w.heap[g]?) (hs : w.heap.size ≤ w'.heap.size) : PairRow w' g us :=
  ⟨fun he => Nat.lt_of_lt_of_le (h.1 he) hs, fun j p hj i u hu => by
    rw [← h.2 j p hj i u hu]
    exact World.cell?_of_block (hk (by intro e; rw [e] at hj; cases hj))⟩
theorem PairRow.touch {w w' : World} {g : Nat} {us : List (List UInt8 × Array Value)} {G : Nat → Prop} (h : PairRow w g us) (ht : Touch G w w') (hG : us ≠ [] → ¬G g) : PairRow w' g us :=
  h.keep (fun he => ht.block g (h.1 he) (hG he)) ht.size
theorem flatP_get : ∀ (us : List (List UInt8 × Array Value)), (∀ p ∈ us, p.2.size = 19) → ∀ (j : Nat) (p : List UInt8 × Array Value), us[j]? = some p → ∀ i, i < 20 → (flatP us)[j * 20 + i]? = (pairC (strV p.1) p.2)[i]?
  | [], _, j, p, hj, _, _ => by cases hj
  | q :: r, h, j, p, hj, i, hi => by
    have hq : (pairC (strV q.1) q.2).toList.length = 20 := pairC_size (h q (List.mem_cons_self ..))
    have e : flatP (q :: r) = (pairC (strV q.1) q.2).toList ++ flatP r := rfl
    rw [e]
    cases j with
    | zero =>
      injection hj with hj
      subst hj
      rw [List.getElem?_append_left (by omega), Nat.zero_mul, Nat.zero_add, Array.getElem?_toList]
    | succ j =>
      rw [List.getElem?_append_right (by omega), hq, show (j + 1) * 20 + i - 20 = j * 20 + i by omega]
      exact flatP_get r (fun p hp => h p (List.mem_cons_of_mem _ hp)) j p hj i hi
theorem pairRow_of {w : World} {b n : Nat} {v : Value} {us : List (List UInt8 × Array Value)} (h : w.ownsRow b 82 20 v n (flatP us)) (hn : us.length = n) (hs : ∀ p ∈ us, p.2.size = 19) :
    ∃ g c A, v = .slice A n c ∧ (0 < n → A = some ⟨g, 0, none⟩) ∧ n ≤ c ∧ PairRow w g us ∧ (us ≠ [] → b ≤ g) := by
  rcases h.2 with ⟨rfl, rfl⟩ | ⟨g, cap, cur, rfl, hb, hg, hc, _, hz, ht⟩
  · obtain rfl : us = [] := List.length_eq_zero_iff.1 hn
    exact ⟨0, 0, none, rfl, fun h => absurd h (by decide), Nat.le_refl _, ⟨fun h => absurd rfl h, fun j p hj => by cases hj⟩, fun h => absurd rfl h⟩
  · refine ⟨g, cap, _, rfl, fun _ => rfl, hc, ⟨fun _ => (Array.getElem?_eq_some_iff.1 hg).1, fun j p hj i u hu => ?_⟩, fun _ => hb⟩
    have hp := hs p (List.mem_of_getElem? hj)
    have hi : i < 20 := by
      have h1 := (Array.getElem?_eq_some_iff.1 hu).1
      have h2 := pairC_size (k := strV p.1) hp
      simp only [Array.length_toList] at h2
      omega
    have hj' : j < us.length := (List.getElem?_eq_some_iff.1 hj).1
    have h1 := flatP_get us hs j p hj i hi
    rw [hu, ← ht, List.getElem?_take, if_pos (by rw [← hn]; omega), Array.getElem?_toList] at h1
    have hB : Blk w g 82 cur := hg
    rw [hB.cell, h1]
theorem PairRow.key {w : World} {g j : Nat} {us : List (List UInt8 × Array Value)} {p : List UInt8 × Array Value} (h : PairRow w g us) (hj : us[j]? = some p) : w.cell? ⟨g, j * 20, none⟩ = some (strV p.1) := h.2 j p hj 0 _ rfl
theorem PairRow.seen {w : World} {g j : Nat} {us : List (List UInt8 × Array Value)} {p : List UInt8 × Array Value} (h : PairRow w g us) (hj : us[j]? = some p) (hs : p.2.size = 19) : (loadVar 57 ⟨g, j * 20 + 1, none⟩).run Tryz.prog w = .ok (.agg p.2) w :=
  run_loadVar_cells 57 ⟨g, j * 20 + 1, none⟩ Tryz.underlying57 seenInfo p.2 hs fun i v hv => by
    rw [add_plain]
    show w.cell? ⟨g, j * 20 + 1 + i, none⟩ = some v
    rw [Nat.add_assoc]
    exact h.2 j p hj (1 + i) v (by
      unfold pairC
      rw [List.getElem?_toArray, show 1 + i = i + 1 by omega, List.getElem?_cons_succ]
      exact hv)
theorem Told.touch {V V' : World} {m : Nat} {S : Drv} {Y : Wnd} {st : Hd} {ks : List (List UInt8)} {us : List (List UInt8 × Array Value)} {G : Nat → Prop} (h : Told V m S Y st ks us) (ht : Touch G V V') (hG : ∀ k, G k → k < m) : Told V' m S Y st ks us :=
  h.keepB fun k t cs hm hb _ => ht.block k hb.lt fun hg => by have := hG k hg; omega
theorem Told.size {V : World} {m : Nat} {S : Drv} {Y : Wnd} {st : Hd} {ks : List (List UInt8)} {us : List (List UInt8 × Array Value)} (h : Told V m S Y st ks us) : ∀ p ∈ us, p.2.size = 19 := fun p hp => by
  obtain ⟨j, hj⟩ := List.getElem?_of_mem hp
  exact (h j p hj).2.1
end Go.Proofs.YtcbebefdbdppdaaGreat

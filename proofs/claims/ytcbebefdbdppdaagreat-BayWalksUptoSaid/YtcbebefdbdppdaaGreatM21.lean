/- frame.Parse's callback: a block is kept, and whether it is whole.; frame.blocks with Parse's callback.; frame.blocks with Parse's callback: the walk. -/
import Derived.Test.YtcbebefdbdppdaaGreatM20
namespace Go.Proofs.YtcbebefdbdppdaaGreat
open Go.RowKit Go.Maps
structure BlkOwn (w : World) (b : Nat) (v : Value) (l : List (List UInt8)) : Prop where
  row : ∃ vs, w.ownsRow b 46 1 v l.length vs ∧ ∀ (j : Nat) (x : List UInt8), l[j]? = some x → ∃ A' c', vs[j]? = some (Value.slice A' x.length c') ∧ w.ownsRow b 5 1 (.slice A' x.length c') x.length (x.map B8)
theorem BlkOwn.nil (w : World) (b : Nat) : BlkOwn w b (.slice none 0 0) [] := ⟨[], World.ownsRow_nil _ _ _ _, fun j x h => by cases h⟩
theorem BlkOwn.keep {w w' : World} {b : Nat} {v : Value} {l : List (List UInt8)} (h : BlkOwn w b v l) (hk : ∀ k t cs, Blk w k t cs → (t = 46 ∨ t = 5) → w'.heap[k]? = w.heap[k]?) : BlkOwn w' b v l := by
  obtain ⟨vs, h1, h2⟩ := h.row
  have hp : ∀ {e : TypeId} {n : Nat} {u : Value} {xs : List Value}, w.ownsRow b e 1 u n xs → (e = 46 ∨ e = 5) → w'.ownsRow b e 1 u n xs := fun {e n u xs} ho he => ownsRow_keep ho fun k hk' => by
    rcases ho.2 with ⟨rfl, _⟩ | ⟨g, cap, cur, rfl, _, hg, _⟩
    · cases hk'
    · have : g = k := by simpa [Value.ownBlock] using hk'
      subst this
      exact hk g e cur hg he
  exact ⟨vs, hp h1 (.inl rfl), fun j x hx => by obtain ⟨A', c', e, ho⟩ := h2 j x hx; exact ⟨A', c', e, hp ho (.inr rfl)⟩⟩
theorem BlkOwn.below {w w' : World} {b : Nat} {v : Value} {l : List (List UInt8)} (h : BlkOwn w b v l) (hb : Below w.heap.size w w') : BlkOwn w' b v l :=
  h.keep fun k _ _ hk _ => hb.block k hk.lt
theorem BlkOwn.far {w : World} {b g : Nat} {v : Value} {l : List (List UInt8)} {t : TypeId} {cs : Array Value} (h : BlkOwn w b v l) (hg : Blk w g t cs) (h1 : t ≠ 46) (h2 : t ≠ 5) (i : Nat) (u : Value) : BlkOwn (w.setCell ⟨g, i, none⟩ u) b v l :=
  h.keep fun k t' cs' hk ht => Below.heap_setCell w ⟨g, i, none⟩ u k (fun e => by
    change k = g at e
    subst e
    have : t' = t := by unfold Blk at hk hg; rw [hk] at hg; injection hg with hg; injection hg
    subst this
    rcases ht with e | e
    · exact h1 e
    · exact h2 e)
theorem BlkOwn.append {w w' : World} {b : Nat} {v v' : Value} {l : List (List UInt8)} {x : List UInt8} {A : Option Addr} {c : Nat} {vs : List Value} (_h : BlkOwn w b v l) (hv : w.ownsRow b 46 1 v l.length vs) (hvs : ∀ (j : Nat) (x : List UInt8), l[j]? = some x → ∃ A' c', vs[j]? = some (Value.slice A' x.length c') ∧ w.ownsRow b 5 1 (.slice A' x.length c') x.length (x.map B8))
    (hx : w.ownsRow b 5 1 (.slice A x.length c) x.length (x.map B8)) (hr : w'.ownsRow b 46 1 v' (l.length + 1) (vs ++ [.slice A x.length c])) (hg : w.grownBy w' v.ownBlock) : BlkOwn w' b v' (l ++ [x]) := by
  have hp : ∀ {n : Nat} {u : Value} {xs : List Value}, w.ownsRow b 5 1 u n xs → w'.ownsRow b 5 1 u n xs := fun {n u xs} ho => ownsRow_keep ho fun k hk' => by
    refine hg.block k (ho.lt k hk').2 fun e => ?_
    rcases hv.2 with ⟨rfl, _⟩ | ⟨g, cap, cur, rfl, _, hgb, _⟩
    · cases e
    · have hgk : g = k := by have := e.symm; simpa [Value.ownBlock] using this
      subst hgk
      exact own_blk_ne ho hgb (by decide) hk'
  have hl : vs.length = l.length := by have := hv.1; simpa using this
  refine ⟨vs ++ [.slice A x.length c], by rw [List.length_append]; exact hr, fun j y hy => ?_⟩
  by_cases hj : j < l.length
  · rw [List.getElem?_append_left hj] at hy
    obtain ⟨A', c', e, ho⟩ := hvs j y hy
    exact ⟨A', c', by rw [List.getElem?_append_left (by omega)]; exact e, hp ho⟩
  · rw [List.getElem?_append_right (by omega)] at hy
    have hj0 : j - l.length = 0 := by
      have := (List.getElem?_eq_some_iff.1 hy).1
      simp at this; omega
    rw [hj0] at hy
    injection hy with hy
    subst hy
    exact ⟨A, c, by rw [List.getElem?_append_right (by omega), show j - vs.length = 0 by omega]; rfl, hp hx⟩
theorem BlkOwn.base {w : World} {b b' : Nat} {v : Value} {l : List (List UInt8)} (h : BlkOwn w b v l) (hb : b' ≤ b) : BlkOwn w b' v l := by
  obtain ⟨vs, h1, h2⟩ := h.row
  exact ⟨vs, ownsRow_base_a h1 hb, fun j x hx => by obtain ⟨A', c', e, ho⟩ := h2 j x hx; exact ⟨A', c', e, ownsRow_base_a ho hb⟩⟩
theorem BlkOwn.reads {w : World} {b : Nat} {A : Option Addr} {n c : Nat} {l : List (List UInt8)} (h : BlkOwn w b (.slice A n c) l) (hn : l.length = n) : BlksAt w w.heap.size A n l := by
  obtain ⟨vs, h1, h2⟩ := h.row
  rw [hn] at h1
  exact ⟨hn, vs, Reads.of_own h1, fun j x hx => by obtain ⟨A', c', e, ho⟩ := h2 j x hx; exact ⟨A', c', e, Reads.of_own ho⟩⟩
theorem sliceInfoB : (Tryz.prog.info? 46).map (fun i => (i.zero, i.size, i.bytes)) = some (some (.slice none 0 0), 1, 24) := by kernel_rfl
theorem push_set {CK : Array Value} (h : CK.size = 16) (u v : Value) : (CK.push u).setIfInBounds 16 v = CK.push v := by
  apply Array.ext_getElem?
  intro i
  rw [Array.getElem?_setIfInBounds, Array.size_push, h]
  by_cases hi : 16 = i
  · subst hi
    rw [if_pos rfl, if_pos (by omega)]
    exact (by rw [← h]; exact Array.getElem?_push_size.symm)
  · rw [if_neg hi, Array.getElem?_push, Array.getElem?_push, h, if_neg (fun e => hi e.symm), if_neg (fun e => hi e.symm)]
theorem push_last {CK : Array Value} (h : CK.size = 16) (u : Value) : (CK.push u)[16]? = some u := by
  rw [← h]; exact Array.getElem?_push_size
set_option maxRecDepth 100000 in
set_option maxHeartbeats 8000000 in
theorem parse1_any (j : Int) (A : Option Addr) (n c : Nat) (bs : List UInt8) (whole r : Bool) (Rb Sb b : Nat) (CK : Array Value) (sv : Value) (l : List (List UInt8)) (w : World) (hcs : CK.size = 16) (hR : Blk w Rb 4 #[.bool r]) (hS : Blk w Sb 31 (CK.push sv)) (hB : BlkOwn w b sv l) (hb : b ≤ w.heap.size) (hRb : b ≤ Rb)
    (hx : Reads w b 1 A n (bs.map B8)) (hn : n ≤ 1099511627776) (hl : l.length ≤ 4096) :
    Calls Tryz.prog 131 #[.int .i64 j, .slice A n c, .bool whole, .pointer (some ⟨Rb, 0, none⟩), .pointer (some ⟨Sb, 0, none⟩)] w fun e w' => e = .returned (.tuple #[]) ∧
      ∃ sv', Blk w' Rb 4 #[.bool (r && whole)] ∧ Blk w' Sb 31 (CK.push sv') ∧ BlkOwn w' b sv' (l ++ [bs]) ∧ Touch (fun k => k = Rb ∨ k = Sb ∨ sv.ownBlock = some k) w w' := by
  have hRS : Rb ≠ Sb := hR.ne_ hS (by decide)
  have y0 : w.cell? ⟨Rb, 0, none⟩ = some (.bool r) := hR.cell 0
  have yf : w.frozen? ⟨Rb, 0, none⟩ = false := hR.frozen 0
  obtain ⟨q, hq⟩ : ∃ q, q = (r && whole) := ⟨_, rfl⟩
  obtain ⟨W0, hW0⟩ : ∃ W0, W0 = w.setCell ⟨Rb, 0, none⟩ (.bool q) := ⟨_, rfl⟩
  have HR0 : Hid (Blk W0 Rb 4 #[.bool q]) := Lib.hid (by rw [hW0]; exact hR.set_ 0 _)
  have HS0 : Hid (Blk W0 Sb 31 (CK.push sv)) := Lib.hid (by rw [hW0]; exact hS.far (p := ⟨Rb, 0, none⟩) (fun e => hRS e.symm) _)
  have HB0 : Hid (BlkOwn W0 b sv l) := Lib.hid (by rw [hW0]; exact hB.far hR (by decide) (by decide) 0 _)
  have HT0 : Hid (Touch (fun k => k = Rb ∨ k = Sb ∨ sv.ownBlock = some k) w W0) := Lib.hid (by rw [hW0]; exact Touch.setCell w ⟨Rb, 0, none⟩ _ (.inl rfl))
  have HX0 : Hid (Reads W0 b 1 A n (bs.map B8)) := Lib.hid (by rw [hW0]; exact hx.setCell hRb _)
  have hs0 : W0.heap.size = w.heap.size := by rw [hW0]; show (w.heap.modify _ _).size = _; rw [Array.size_modify]
  have hbs : bs.length = n := by have := hx.1; simpa using this
  subst hbs
  have hb0 : b ≤ W0.heap.size := by rw [hs0]; exact hb
  obtain ⟨vs, hvs, hve⟩ := HB0.out.row
  obtain ⟨sa, sc, rfl, _⟩ := own_shape hvs
  have HVS := Lib.hid hvs
  have HVE := Lib.hid hve
  have HNE : Hid ((Value.slice sa l.length sc).ownBlock ≠ some Sb) := Lib.hid (own_blk_ne hvs HS0.out (by decide))
  have HNR : Hid ((Value.slice sa l.length sc).ownBlock ≠ some Rb) := Lib.hid (own_blk_ne hvs HR0.out (by decide))
  have HNL : Hid (bs.length ≤ 1099511627776 ∧ l.length ≤ 4096) := Lib.hid ⟨hn, hl⟩
  have s1 : W0.cell? ⟨Sb, 16, none⟩ = some (.slice sa l.length sc) := (HS0.out.cell 16).trans (push_last hcs _)
  have HCS := Lib.hid hcs
  have HQ := Lib.hid hq
  have hqr : r = true → q = whole := fun e => by rw [hq, e, Bool.true_and]
  have hqf : r = false → q = false := fun e => by rw [hq, e, Bool.false_and]
  have HSB : Hid (Sb < W0.heap.size) := Lib.hid HS0.out.lt
  obtain ⟨i7, hi7, hv0, hv1, hv2⟩ := info_parts sliceInfoB
  rw [← hq]
  clear hx hn hl hB hR hS hcs hvs hve hq hb
  have HEND : Hid (∀ (w1 w3 : World) (a1 : Option Addr) (c1 : Nat) (v3 : Value), w1.ownsRow W0.heap.size 5 1 (.slice a1 bs.length c1) bs.length (bs.map B8) → Below W0.heap.size W0 w1 → w3.ownsRow b 46 1 v3 (l.length + 1) (vs ++ [.slice a1 bs.length c1]) → (w1.alloc (.cells #[.slice a1 bs.length c1] 46)).grownBy w3 (Value.slice sa l.length sc).ownBlock →
      Blk (w3.setCell ⟨Sb, 16, none⟩ v3) Rb 4 #[.bool q] ∧ Blk (w3.setCell ⟨Sb, 16, none⟩ v3) Sb 31 (CK.push v3) ∧ BlkOwn (w3.setCell ⟨Sb, 16, none⟩ v3) b v3 (l ++ [bs]) ∧ Touch (fun k => k = Rb ∨ k = Sb ∨ (Value.slice sa l.length sc).ownBlock = some k) w (w3.setCell ⟨Sb, 16, none⟩ v3)) := Lib.hid fun w1 w3 a1 c1 v3 ho1 hb1 ho3 hg3 => by
    have k1 : Blk w3 Rb 4 #[.bool q] := ((HR0.out.below hb1 HR0.out.lt).alloc _).grown hg3 (fun e => HNR.out e.symm)
    have k2 : Blk w3 Sb 31 (CK.push (.slice sa l.length sc)) := ((HS0.out.below hb1 HS0.out.lt).alloc _).grown hg3 (fun e => HNE.out e.symm)
    have hbo : BlkOwn w3 b v3 (l ++ [bs]) := by
      have h1 := ownsRow_below HVS.out hb1
      refine BlkOwn.append (w := w1.alloc (.cells #[.slice a1 bs.length c1] 46)) (v := .slice sa l.length sc) (vs := vs) ⟨vs, h1.alloc _, fun j x hx => ?_⟩ (h1.alloc _) (fun j x hx => ?_) ((ownsRow_base_a ho1 hb0).alloc _) ho3 hg3
      · obtain ⟨A', c', e, ho⟩ := HVE.out j x hx; exact ⟨A', c', e, (ownsRow_below ho hb1).alloc _⟩
      · obtain ⟨A', c', e, ho⟩ := HVE.out j x hx; exact ⟨A', c', e, (ownsRow_below ho hb1).alloc _⟩
    refine ⟨k1.far (p := ⟨Sb, 16, none⟩) hRS _, ?_, hbo.far k2 (by decide) (by decide) 16 v3, ?_⟩
    · have := k2.set_ 16 v3
      rwa [push_set HCS.out] at this
    · refine Touch.set (G := fun k => k = Rb ∨ k = Sb ∨ (Value.slice sa l.length sc).ownBlock = some k) ?_ (.inr (.inl rfl)) v3
      have h1 : Touch (fun k => k = Rb ∨ k = Sb ∨ (Value.slice sa l.length sc).ownBlock = some k) w (w1.alloc (.cells #[.slice a1 bs.length c1] 46)) := (HT0.out.trans ((Touch.of_below (hb1.alloc hb1.size _)).mono fun i hi h => .inl h))
      exact h1.trans ((Touch.of_grown hg3 fun k hk => .inr (.inr hk)).mono fun i hi h => .inl h)
  cases r
  · obtain rfl := hqf rfl
    clear hqr hqf
    go_enter Tryz.func131, Tryz.ntmps131
    go_wp2_with fail
    rw [← hW0]
    clear hW0
    refine wp_region_held_drew (S := (fun _ => True)) (by kernel_rfl) ?_ (fun hHeld => ?_)
    · ((try dsimp only); first | done | trivial)
    refine wpAnyH_take (i := 0) (oi := ⟨_, _, _, _, _, _⟩) (v := ?_) rfl (by kernel_rfl) (by kernel_rfl) (by kernel_rfl) (fun _ _ _ h => h) (Or.inl ⟨by kernel_rfl, ?_⟩) (by assumption) ?_
    rotate_left
    · (intro wS hSw; (try dsimp only at hSw); go_simp; try with_reducible rfl)
    try simp only [Act.put, List.setIfInBounds_toArray, List.set_cons_zero, List.set_cons_succ]
    refine wpAnyH_take (i := 2) (oi := ⟨_, _, _, _, _, _⟩) (v := ?_) rfl (by kernel_rfl) (by kernel_rfl) (by kernel_rfl) (fun _ _ _ h => h) (Or.inl ⟨by kernel_rfl, ?_⟩) (by assumption) ?_
    rotate_left
    · (intro wS hSw; (try dsimp only at hSw); go_simp; try with_reducible rfl)
    try simp only [Act.put, List.setIfInBounds_toArray, List.set_cons_zero, List.set_cons_succ]
    refine wpAnyH_ready (rs := [1, 3]) (by kernel_rfl) (by simp) (AllReadyH.cons (o := _) rfl (fun K hK => ?b1y1x1) (AllReadyH.cons (o := _) rfl (fun K hK => ?b1y1x3) AllReadyH.nil))
    case' b1y1x1 =>
      go_simp
      refine hK.out _ _ ?_ (fun hHeld => ?_)
      · ((try dsimp only); first | done | trivial)
      clear hK K; try simp only [Act.put, List.setIfInBounds_toArray, List.set_cons_zero, List.set_cons_succ]
      refine wpAnyH_ready (rs := [3]) (by kernel_rfl) (by simp) (AllReadyH.cons (o := _) rfl (fun K hK => ?b1y2x3) AllReadyH.nil)
      go_simp; (go_at_call 79; refine (clone_any A bs.length c bs _ _ HX0.out.drew (by have := HNL.out; omega)).mono ?_; rintro e w1 ⟨v1, rfl, ho1, hb1⟩; obtain ⟨a1, c1, rfl, _⟩ := own_shape ho1; have HO1 : Hid (w1.ownsRow W0.heap.size 5 1 (.slice a1 bs.length c1) bs.length (bs.map B8)) := Lib.hid ho1; have HB1 : Hid (Below W0.heap.size W0 w1) := Lib.hid (below_of_drew hb1); have s2 : w1.cell? ⟨Sb, 16, none⟩ = some (.slice sa l.length sc) := (HB1.out.cell (p := ⟨Sb, 16, none⟩) HSB.out).trans s1; have s2a : ∀ o, (w1.alloc o).cell? ⟨Sb, 16, none⟩ = some (.slice sa l.length sc) := fun o => (World.cell?_alloc_lt w1 o ⟨Sb, 16, none⟩ (Nat.lt_of_lt_of_le HSB.out HB1.out.size)).trans s2; clear ho1 hb1)
      refine hK.out _ _ ?_ (fun hHeld => ?_)
      · ((try dsimp only); first | done | trivial)
      clear hK K; try simp only [Act.put, List.setIfInBounds_toArray, List.set_cons_zero, List.set_cons_succ]
      refine wpAnyH_ready (rs := [4]) (by kernel_rfl) (by simp) (AllReadyH.cons (o := _) rfl (fun K hK => ?b1y3x4) AllReadyH.nil)
      go_simp
      refine hK.out _ _ ?_ (fun hHeld => ?_)
      · ((try dsimp only); first | done | trivial)
      clear hK K; try simp only [Act.put, List.setIfInBounds_toArray, List.set_cons_zero, List.set_cons_succ]
      refine wpAnyH_ready (rs := [5]) (by kernel_rfl) (by simp) (AllReadyH.cons (o := _) rfl (fun K hK => ?b1y4x5) AllReadyH.nil)
      refine step_append_any _ rfl _ _ 29 rfl b 46 i7 _ 1 24 Tryz.underlying29 hi7 hv0 hv1 hv2 rfl (by decide) (.slice sa l.length sc) l.length vs (by simp [Act.eval, Act.put]) ((ownsRow_below HVS.out HB1.out).alloc _) (w1.heap.size + 1) (some ⟨w1.heap.size, 0, none⟩) 1 1 [.slice a1 bs.length c1] (by simp [Act.eval, Act.put]) (reads_blk (t := 46) (blk_last _ _ _ _ rfl) (by omega) rfl) (by intro u hu; simp at hu; subst hu; rfl) (by have := HNL.out; unfold maxLen; omega) (by have := HNL.out; omega) (by rw [alloc_size]; exact Nat.le_succ_of_le (Nat.le_trans hb0 HB1.out.size)) ?_; intro v3 w3 hown3 hg3 hat3; obtain ⟨a3, c3, hv3, _⟩ := own_shape hown3; subst hv3; have HO3 := Lib.hid hown3; have HG3 := Lib.hid hg3; have K3 : Hid (Blk w3 Sb 31 (CK.push (.slice sa l.length sc))) := Lib.hid (((HS0.out.below HB1.out HS0.out.lt).alloc _).grown hg3 (fun e => HNE.out e.symm)); have s3 : w3.cell? ⟨Sb, 16, none⟩ = some (.slice sa l.length sc) := (K3.out.cell 16).trans (push_last HCS.out _); have f3 : w3.frozen? ⟨Sb, 16, none⟩ = false := K3.out.frozen 16; clear hown3 hg3 hat3
      refine hK.out _ _ ?_ (fun hHeld => ?_)
      · ((try dsimp only); first | done | trivial)
      clear hK K; try simp only [Act.put, List.setIfInBounds_toArray, List.set_cons_zero, List.set_cons_succ]
      refine wpAnyH_take (i := 6) (oi := ⟨_, _, _, _, _, _⟩) (v := ?_) rfl (by kernel_rfl) (by kernel_rfl) (by kernel_rfl) (fun _ _ _ h => h) (Or.inl ⟨by kernel_rfl, ?_⟩) (by assumption) ?_
      rotate_left
      · (intro wS hSw; (try dsimp only at hSw); go_simp; try with_reducible rfl)
      try simp only [Act.put, List.setIfInBounds_toArray, List.set_cons_zero, List.set_cons_succ]
      refine wpAnyH_ready (rs := [7]) (by kernel_rfl) (by simp) (AllReadyH.cons (o := _) rfl (fun K hK => ?b1y5x7) AllReadyH.nil)
      go_simp
      refine hK.out _ _ ?_ (fun hHeld => ?_)
      · ((try dsimp only); first | done | trivial)
      clear hK K; try simp only [Act.put, List.setIfInBounds_toArray, List.set_cons_zero, List.set_cons_succ]
      refine wpAnyH_done (by kernel_rfl) ?_ _
    case' b1y1x3 =>
      go_simp; (go_at_call 79; refine (clone_any A bs.length c bs _ _ HX0.out.drew (by have := HNL.out; omega)).mono ?_; rintro e w1 ⟨v1, rfl, ho1, hb1⟩; obtain ⟨a1, c1, rfl, _⟩ := own_shape ho1; have HO1 : Hid (w1.ownsRow W0.heap.size 5 1 (.slice a1 bs.length c1) bs.length (bs.map B8)) := Lib.hid ho1; have HB1 : Hid (Below W0.heap.size W0 w1) := Lib.hid (below_of_drew hb1); have s2 : w1.cell? ⟨Sb, 16, none⟩ = some (.slice sa l.length sc) := (HB1.out.cell (p := ⟨Sb, 16, none⟩) HSB.out).trans s1; have s2a : ∀ o, (w1.alloc o).cell? ⟨Sb, 16, none⟩ = some (.slice sa l.length sc) := fun o => (World.cell?_alloc_lt w1 o ⟨Sb, 16, none⟩ (Nat.lt_of_lt_of_le HSB.out HB1.out.size)).trans s2; clear ho1 hb1)
      refine hK.out _ _ ?_ (fun hHeld => ?_)
      · ((try dsimp only); first | done | trivial)
      clear hK K; try simp only [Act.put, List.setIfInBounds_toArray, List.set_cons_zero, List.set_cons_succ]
      refine wpAnyH_ready (rs := [1, 4]) (by kernel_rfl) (by simp) (AllReadyH.cons (o := _) rfl (fun K hK => ?b1y6x1) (AllReadyH.cons (o := _) rfl (fun K hK => ?b1y6x4) AllReadyH.nil))
      case' b1y6x1 =>
        go_simp
        refine hK.out _ _ ?_ (fun hHeld => ?_)
        · ((try dsimp only); first | done | trivial)
        clear hK K; try simp only [Act.put, List.setIfInBounds_toArray, List.set_cons_zero, List.set_cons_succ]
        refine wpAnyH_ready (rs := [4]) (by kernel_rfl) (by simp) (AllReadyH.cons (o := _) rfl (fun K hK => ?b1y7x4) AllReadyH.nil)
        go_simp
        refine hK.out _ _ ?_ (fun hHeld => ?_)
        · ((try dsimp only); first | done | trivial)
        clear hK K; try simp only [Act.put, List.setIfInBounds_toArray, List.set_cons_zero, List.set_cons_succ]
        refine wpAnyH_ready (rs := [5]) (by kernel_rfl) (by simp) (AllReadyH.cons (o := _) rfl (fun K hK => ?b1y8x5) AllReadyH.nil)
        refine step_append_any _ rfl _ _ 29 rfl b 46 i7 _ 1 24 Tryz.underlying29 hi7 hv0 hv1 hv2 rfl (by decide) (.slice sa l.length sc) l.length vs (by simp [Act.eval, Act.put]) ((ownsRow_below HVS.out HB1.out).alloc _) (w1.heap.size + 1) (some ⟨w1.heap.size, 0, none⟩) 1 1 [.slice a1 bs.length c1] (by simp [Act.eval, Act.put]) (reads_blk (t := 46) (blk_last _ _ _ _ rfl) (by omega) rfl) (by intro u hu; simp at hu; subst hu; rfl) (by have := HNL.out; unfold maxLen; omega) (by have := HNL.out; omega) (by rw [alloc_size]; exact Nat.le_succ_of_le (Nat.le_trans hb0 HB1.out.size)) ?_; intro v3 w3 hown3 hg3 hat3; obtain ⟨a3, c3, hv3, _⟩ := own_shape hown3; subst hv3; have HO3 := Lib.hid hown3; have HG3 := Lib.hid hg3; have K3 : Hid (Blk w3 Sb 31 (CK.push (.slice sa l.length sc))) := Lib.hid (((HS0.out.below HB1.out HS0.out.lt).alloc _).grown hg3 (fun e => HNE.out e.symm)); have s3 : w3.cell? ⟨Sb, 16, none⟩ = some (.slice sa l.length sc) := (K3.out.cell 16).trans (push_last HCS.out _); have f3 : w3.frozen? ⟨Sb, 16, none⟩ = false := K3.out.frozen 16; clear hown3 hg3 hat3
        refine hK.out _ _ ?_ (fun hHeld => ?_)
        · ((try dsimp only); first | done | trivial)
        clear hK K; try simp only [Act.put, List.setIfInBounds_toArray, List.set_cons_zero, List.set_cons_succ]
        refine wpAnyH_take (i := 6) (oi := ⟨_, _, _, _, _, _⟩) (v := ?_) rfl (by kernel_rfl) (by kernel_rfl) (by kernel_rfl) (fun _ _ _ h => h) (Or.inl ⟨by kernel_rfl, ?_⟩) (by assumption) ?_
        rotate_left
        · (intro wS hSw; (try dsimp only at hSw); go_simp; try with_reducible rfl)
        try simp only [Act.put, List.setIfInBounds_toArray, List.set_cons_zero, List.set_cons_succ]
        refine wpAnyH_ready (rs := [7]) (by kernel_rfl) (by simp) (AllReadyH.cons (o := _) rfl (fun K hK => ?b1y9x7) AllReadyH.nil)
        go_simp
        refine hK.out _ _ ?_ (fun hHeld => ?_)
        · ((try dsimp only); first | done | trivial)
        clear hK K; try simp only [Act.put, List.setIfInBounds_toArray, List.set_cons_zero, List.set_cons_succ]
        refine wpAnyH_done (by kernel_rfl) ?_ _
      case' b1y6x4 =>
        go_simp
        refine hK.out _ _ ?_ (fun hHeld => ?_)
        · ((try dsimp only); first | done | trivial)
        clear hK K; try simp only [Act.put, List.setIfInBounds_toArray, List.set_cons_zero, List.set_cons_succ]
        refine wpAnyH_ready (rs := [1]) (by kernel_rfl) (by simp) (AllReadyH.cons (o := _) rfl (fun K hK => ?b1y10x1) AllReadyH.nil)
        go_simp
        refine hK.out _ _ ?_ (fun hHeld => ?_)
        · ((try dsimp only); first | done | trivial)
        clear hK K; try simp only [Act.put, List.setIfInBounds_toArray, List.set_cons_zero, List.set_cons_succ]
        refine wpAnyH_ready (rs := [5]) (by kernel_rfl) (by simp) (AllReadyH.cons (o := _) rfl (fun K hK => ?b1y11x5) AllReadyH.nil)
        refine step_append_any _ rfl _ _ 29 rfl b 46 i7 _ 1 24 Tryz.underlying29 hi7 hv0 hv1 hv2 rfl (by decide) (.slice sa l.length sc) l.length vs (by simp [Act.eval, Act.put]) ((ownsRow_below HVS.out HB1.out).alloc _) (w1.heap.size + 1) (some ⟨w1.heap.size, 0, none⟩) 1 1 [.slice a1 bs.length c1] (by simp [Act.eval, Act.put]) (reads_blk (t := 46) (blk_last _ _ _ _ rfl) (by omega) rfl) (by intro u hu; simp at hu; subst hu; rfl) (by have := HNL.out; unfold maxLen; omega) (by have := HNL.out; omega) (by rw [alloc_size]; exact Nat.le_succ_of_le (Nat.le_trans hb0 HB1.out.size)) ?_; intro v3 w3 hown3 hg3 hat3; obtain ⟨a3, c3, hv3, _⟩ := own_shape hown3; subst hv3; have HO3 := Lib.hid hown3; have HG3 := Lib.hid hg3; have K3 : Hid (Blk w3 Sb 31 (CK.push (.slice sa l.length sc))) := Lib.hid (((HS0.out.below HB1.out HS0.out.lt).alloc _).grown hg3 (fun e => HNE.out e.symm)); have s3 : w3.cell? ⟨Sb, 16, none⟩ = some (.slice sa l.length sc) := (K3.out.cell 16).trans (push_last HCS.out _); have f3 : w3.frozen? ⟨Sb, 16, none⟩ = false := K3.out.frozen 16; clear hown3 hg3 hat3
        refine hK.out _ _ ?_ (fun hHeld => ?_)
        · ((try dsimp only); first | done | trivial)
        clear hK K; try simp only [Act.put, List.setIfInBounds_toArray, List.set_cons_zero, List.set_cons_succ]
        refine wpAnyH_take (i := 6) (oi := ⟨_, _, _, _, _, _⟩) (v := ?_) rfl (by kernel_rfl) (by kernel_rfl) (by kernel_rfl) (fun _ _ _ h => h) (Or.inl ⟨by kernel_rfl, ?_⟩) (by assumption) ?_
        rotate_left
        · (intro wS hSw; (try dsimp only at hSw); go_simp; try with_reducible rfl)
        try simp only [Act.put, List.setIfInBounds_toArray, List.set_cons_zero, List.set_cons_succ]
        refine wpAnyH_ready (rs := [7]) (by kernel_rfl) (by simp) (AllReadyH.cons (o := _) rfl (fun K hK => ?b1y12x7) AllReadyH.nil)
        go_simp
        refine hK.out _ _ ?_ (fun hHeld => ?_)
        · ((try dsimp only); first | done | trivial)
        clear hK K; try simp only [Act.put, List.setIfInBounds_toArray, List.set_cons_zero, List.set_cons_succ]
        refine wpAnyH_done (by kernel_rfl) ?_ _
    all_goals
      try go_wp2_with fail
      go_end0
      exact ⟨rfl, _, HEND.out w1 w3 a1 c1 _ HO1.out HB1.out HO3.out HG3.out⟩
  · obtain rfl := hqr rfl
    clear hqr hqf
    go_enter Tryz.func131, Tryz.ntmps131
    go_wp2_with fail
    rw [← hW0]
    clear hW0
    refine wp_region_held_drew (S := (fun _ => True)) (by kernel_rfl) ?_ (fun hHeld => ?_)
    · ((try dsimp only); first | done | trivial)
    refine wpAnyH_take (i := 0) (oi := ⟨_, _, _, _, _, _⟩) (v := ?_) rfl (by kernel_rfl) (by kernel_rfl) (by kernel_rfl) (fun _ _ _ h => h) (Or.inl ⟨by kernel_rfl, ?_⟩) (by assumption) ?_
    rotate_left
    · (intro wS hSw; (try dsimp only at hSw); go_simp; try with_reducible rfl)
    try simp only [Act.put, List.setIfInBounds_toArray, List.set_cons_zero, List.set_cons_succ]
    refine wpAnyH_take (i := 2) (oi := ⟨_, _, _, _, _, _⟩) (v := ?_) rfl (by kernel_rfl) (by kernel_rfl) (by kernel_rfl) (fun _ _ _ h => h) (Or.inl ⟨by kernel_rfl, ?_⟩) (by assumption) ?_
    rotate_left
    · (intro wS hSw; (try dsimp only at hSw); go_simp; try with_reducible rfl)
    try simp only [Act.put, List.setIfInBounds_toArray, List.set_cons_zero, List.set_cons_succ]
    refine wpAnyH_ready (rs := [1, 3]) (by kernel_rfl) (by simp) (AllReadyH.cons (o := _) rfl (fun K hK => ?b2y1x1) (AllReadyH.cons (o := _) rfl (fun K hK => ?b2y1x3) AllReadyH.nil))
    case' b2y1x1 =>
      go_simp
      refine hK.out _ _ ?_ (fun hHeld => ?_)
      · ((try dsimp only); first | done | trivial)
      clear hK K; try simp only [Act.put, List.setIfInBounds_toArray, List.set_cons_zero, List.set_cons_succ]
      refine wpAnyH_ready (rs := [3]) (by kernel_rfl) (by simp) (AllReadyH.cons (o := _) rfl (fun K hK => ?b2y2x3) AllReadyH.nil)
      go_simp; (go_at_call 79; refine (clone_any A bs.length c bs _ _ HX0.out.drew (by have := HNL.out; omega)).mono ?_; rintro e w1 ⟨v1, rfl, ho1, hb1⟩; obtain ⟨a1, c1, rfl, _⟩ := own_shape ho1; have HO1 : Hid (w1.ownsRow W0.heap.size 5 1 (.slice a1 bs.length c1) bs.length (bs.map B8)) := Lib.hid ho1; have HB1 : Hid (Below W0.heap.size W0 w1) := Lib.hid (below_of_drew hb1); have s2 : w1.cell? ⟨Sb, 16, none⟩ = some (.slice sa l.length sc) := (HB1.out.cell (p := ⟨Sb, 16, none⟩) HSB.out).trans s1; have s2a : ∀ o, (w1.alloc o).cell? ⟨Sb, 16, none⟩ = some (.slice sa l.length sc) := fun o => (World.cell?_alloc_lt w1 o ⟨Sb, 16, none⟩ (Nat.lt_of_lt_of_le HSB.out HB1.out.size)).trans s2; clear ho1 hb1)
      refine hK.out _ _ ?_ (fun hHeld => ?_)
      · ((try dsimp only); first | done | trivial)
      clear hK K; try simp only [Act.put, List.setIfInBounds_toArray, List.set_cons_zero, List.set_cons_succ]
      refine wpAnyH_ready (rs := [4]) (by kernel_rfl) (by simp) (AllReadyH.cons (o := _) rfl (fun K hK => ?b2y3x4) AllReadyH.nil)
      go_simp
      refine hK.out _ _ ?_ (fun hHeld => ?_)
      · ((try dsimp only); first | done | trivial)
      clear hK K; try simp only [Act.put, List.setIfInBounds_toArray, List.set_cons_zero, List.set_cons_succ]
      refine wpAnyH_ready (rs := [5]) (by kernel_rfl) (by simp) (AllReadyH.cons (o := _) rfl (fun K hK => ?b2y4x5) AllReadyH.nil)
      refine step_append_any _ rfl _ _ 29 rfl b 46 i7 _ 1 24 Tryz.underlying29 hi7 hv0 hv1 hv2 rfl (by decide) (.slice sa l.length sc) l.length vs (by simp [Act.eval, Act.put]) ((ownsRow_below HVS.out HB1.out).alloc _) (w1.heap.size + 1) (some ⟨w1.heap.size, 0, none⟩) 1 1 [.slice a1 bs.length c1] (by simp [Act.eval, Act.put]) (reads_blk (t := 46) (blk_last _ _ _ _ rfl) (by omega) rfl) (by intro u hu; simp at hu; subst hu; rfl) (by have := HNL.out; unfold maxLen; omega) (by have := HNL.out; omega) (by rw [alloc_size]; exact Nat.le_succ_of_le (Nat.le_trans hb0 HB1.out.size)) ?_; intro v3 w3 hown3 hg3 hat3; obtain ⟨a3, c3, hv3, _⟩ := own_shape hown3; subst hv3; have HO3 := Lib.hid hown3; have HG3 := Lib.hid hg3; have K3 : Hid (Blk w3 Sb 31 (CK.push (.slice sa l.length sc))) := Lib.hid (((HS0.out.below HB1.out HS0.out.lt).alloc _).grown hg3 (fun e => HNE.out e.symm)); have s3 : w3.cell? ⟨Sb, 16, none⟩ = some (.slice sa l.length sc) := (K3.out.cell 16).trans (push_last HCS.out _); have f3 : w3.frozen? ⟨Sb, 16, none⟩ = false := K3.out.frozen 16; clear hown3 hg3 hat3
      refine hK.out _ _ ?_ (fun hHeld => ?_)
      · ((try dsimp only); first | done | trivial)
      clear hK K; try simp only [Act.put, List.setIfInBounds_toArray, List.set_cons_zero, List.set_cons_succ]
      refine wpAnyH_take (i := 6) (oi := ⟨_, _, _, _, _, _⟩) (v := ?_) rfl (by kernel_rfl) (by kernel_rfl) (by kernel_rfl) (fun _ _ _ h => h) (Or.inl ⟨by kernel_rfl, ?_⟩) (by assumption) ?_
      rotate_left
      · (intro wS hSw; (try dsimp only at hSw); go_simp; try with_reducible rfl)
      try simp only [Act.put, List.setIfInBounds_toArray, List.set_cons_zero, List.set_cons_succ]
      refine wpAnyH_ready (rs := [7]) (by kernel_rfl) (by simp) (AllReadyH.cons (o := _) rfl (fun K hK => ?b2y5x7) AllReadyH.nil)
      go_simp
      refine hK.out _ _ ?_ (fun hHeld => ?_)
      · ((try dsimp only); first | done | trivial)
      clear hK K; try simp only [Act.put, List.setIfInBounds_toArray, List.set_cons_zero, List.set_cons_succ]
      refine wpAnyH_done (by kernel_rfl) ?_ _
    case' b2y1x3 =>
      go_simp; (go_at_call 79; refine (clone_any A bs.length c bs _ _ HX0.out.drew (by have := HNL.out; omega)).mono ?_; rintro e w1 ⟨v1, rfl, ho1, hb1⟩; obtain ⟨a1, c1, rfl, _⟩ := own_shape ho1; have HO1 : Hid (w1.ownsRow W0.heap.size 5 1 (.slice a1 bs.length c1) bs.length (bs.map B8)) := Lib.hid ho1; have HB1 : Hid (Below W0.heap.size W0 w1) := Lib.hid (below_of_drew hb1); have s2 : w1.cell? ⟨Sb, 16, none⟩ = some (.slice sa l.length sc) := (HB1.out.cell (p := ⟨Sb, 16, none⟩) HSB.out).trans s1; have s2a : ∀ o, (w1.alloc o).cell? ⟨Sb, 16, none⟩ = some (.slice sa l.length sc) := fun o => (World.cell?_alloc_lt w1 o ⟨Sb, 16, none⟩ (Nat.lt_of_lt_of_le HSB.out HB1.out.size)).trans s2; clear ho1 hb1)
      refine hK.out _ _ ?_ (fun hHeld => ?_)
      · ((try dsimp only); first | done | trivial)
      clear hK K; try simp only [Act.put, List.setIfInBounds_toArray, List.set_cons_zero, List.set_cons_succ]
      refine wpAnyH_ready (rs := [1, 4]) (by kernel_rfl) (by simp) (AllReadyH.cons (o := _) rfl (fun K hK => ?b2y6x1) (AllReadyH.cons (o := _) rfl (fun K hK => ?b2y6x4) AllReadyH.nil))
      case' b2y6x1 =>
        go_simp
        refine hK.out _ _ ?_ (fun hHeld => ?_)
        · ((try dsimp only); first | done | trivial)
        clear hK K; try simp only [Act.put, List.setIfInBounds_toArray, List.set_cons_zero, List.set_cons_succ]
        refine wpAnyH_ready (rs := [4]) (by kernel_rfl) (by simp) (AllReadyH.cons (o := _) rfl (fun K hK => ?b2y7x4) AllReadyH.nil)
        go_simp
        refine hK.out _ _ ?_ (fun hHeld => ?_)
        · ((try dsimp only); first | done | trivial)
        clear hK K; try simp only [Act.put, List.setIfInBounds_toArray, List.set_cons_zero, List.set_cons_succ]
        refine wpAnyH_ready (rs := [5]) (by kernel_rfl) (by simp) (AllReadyH.cons (o := _) rfl (fun K hK => ?b2y8x5) AllReadyH.nil)
        refine step_append_any _ rfl _ _ 29 rfl b 46 i7 _ 1 24 Tryz.underlying29 hi7 hv0 hv1 hv2 rfl (by decide) (.slice sa l.length sc) l.length vs (by simp [Act.eval, Act.put]) ((ownsRow_below HVS.out HB1.out).alloc _) (w1.heap.size + 1) (some ⟨w1.heap.size, 0, none⟩) 1 1 [.slice a1 bs.length c1] (by simp [Act.eval, Act.put]) (reads_blk (t := 46) (blk_last _ _ _ _ rfl) (by omega) rfl) (by intro u hu; simp at hu; subst hu; rfl) (by have := HNL.out; unfold maxLen; omega) (by have := HNL.out; omega) (by rw [alloc_size]; exact Nat.le_succ_of_le (Nat.le_trans hb0 HB1.out.size)) ?_; intro v3 w3 hown3 hg3 hat3; obtain ⟨a3, c3, hv3, _⟩ := own_shape hown3; subst hv3; have HO3 := Lib.hid hown3; have HG3 := Lib.hid hg3; have K3 : Hid (Blk w3 Sb 31 (CK.push (.slice sa l.length sc))) := Lib.hid (((HS0.out.below HB1.out HS0.out.lt).alloc _).grown hg3 (fun e => HNE.out e.symm)); have s3 : w3.cell? ⟨Sb, 16, none⟩ = some (.slice sa l.length sc) := (K3.out.cell 16).trans (push_last HCS.out _); have f3 : w3.frozen? ⟨Sb, 16, none⟩ = false := K3.out.frozen 16; clear hown3 hg3 hat3
        refine hK.out _ _ ?_ (fun hHeld => ?_)
        · ((try dsimp only); first | done | trivial)
        clear hK K; try simp only [Act.put, List.setIfInBounds_toArray, List.set_cons_zero, List.set_cons_succ]
        refine wpAnyH_take (i := 6) (oi := ⟨_, _, _, _, _, _⟩) (v := ?_) rfl (by kernel_rfl) (by kernel_rfl) (by kernel_rfl) (fun _ _ _ h => h) (Or.inl ⟨by kernel_rfl, ?_⟩) (by assumption) ?_
        rotate_left
        · (intro wS hSw; (try dsimp only at hSw); go_simp; try with_reducible rfl)
        try simp only [Act.put, List.setIfInBounds_toArray, List.set_cons_zero, List.set_cons_succ]
        refine wpAnyH_ready (rs := [7]) (by kernel_rfl) (by simp) (AllReadyH.cons (o := _) rfl (fun K hK => ?b2y9x7) AllReadyH.nil)
        go_simp
        refine hK.out _ _ ?_ (fun hHeld => ?_)
        · ((try dsimp only); first | done | trivial)
        clear hK K; try simp only [Act.put, List.setIfInBounds_toArray, List.set_cons_zero, List.set_cons_succ]
        refine wpAnyH_done (by kernel_rfl) ?_ _
      case' b2y6x4 =>
        go_simp
        refine hK.out _ _ ?_ (fun hHeld => ?_)
        · ((try dsimp only); first | done | trivial)
        clear hK K; try simp only [Act.put, List.setIfInBounds_toArray, List.set_cons_zero, List.set_cons_succ]
        refine wpAnyH_ready (rs := [1]) (by kernel_rfl) (by simp) (AllReadyH.cons (o := _) rfl (fun K hK => ?b2y10x1) AllReadyH.nil)
        go_simp
        refine hK.out _ _ ?_ (fun hHeld => ?_)
        · ((try dsimp only); first | done | trivial)
        clear hK K; try simp only [Act.put, List.setIfInBounds_toArray, List.set_cons_zero, List.set_cons_succ]
        refine wpAnyH_ready (rs := [5]) (by kernel_rfl) (by simp) (AllReadyH.cons (o := _) rfl (fun K hK => ?b2y11x5) AllReadyH.nil)
        refine step_append_any _ rfl _ _ 29 rfl b 46 i7 _ 1 24 Tryz.underlying29 hi7 hv0 hv1 hv2 rfl (by decide) (.slice sa l.length sc) l.length vs (by simp [Act.eval, Act.put]) ((ownsRow_below HVS.out HB1.out).alloc _) (w1.heap.size + 1) (some ⟨w1.heap.size, 0, none⟩) 1 1 [.slice a1 bs.length c1] (by simp [Act.eval, Act.put]) (reads_blk (t := 46) (blk_last _ _ _ _ rfl) (by omega) rfl) (by intro u hu; simp at hu; subst hu; rfl) (by have := HNL.out; unfold maxLen; omega) (by have := HNL.out; omega) (by rw [alloc_size]; exact Nat.le_succ_of_le (Nat.le_trans hb0 HB1.out.size)) ?_; intro v3 w3 hown3 hg3 hat3; obtain ⟨a3, c3, hv3, _⟩ := own_shape hown3; subst hv3; have HO3 := Lib.hid hown3; have HG3 := Lib.hid hg3; have K3 : Hid (Blk w3 Sb 31 (CK.push (.slice sa l.length sc))) := Lib.hid (((HS0.out.below HB1.out HS0.out.lt).alloc _).grown hg3 (fun e => HNE.out e.symm)); have s3 : w3.cell? ⟨Sb, 16, none⟩ = some (.slice sa l.length sc) := (K3.out.cell 16).trans (push_last HCS.out _); have f3 : w3.frozen? ⟨Sb, 16, none⟩ = false := K3.out.frozen 16; clear hown3 hg3 hat3
        refine hK.out _ _ ?_ (fun hHeld => ?_)
        · ((try dsimp only); first | done | trivial)
        clear hK K; try simp only [Act.put, List.setIfInBounds_toArray, List.set_cons_zero, List.set_cons_succ]
        refine wpAnyH_take (i := 6) (oi := ⟨_, _, _, _, _, _⟩) (v := ?_) rfl (by kernel_rfl) (by kernel_rfl) (by kernel_rfl) (fun _ _ _ h => h) (Or.inl ⟨by kernel_rfl, ?_⟩) (by assumption) ?_
        rotate_left
        · (intro wS hSw; (try dsimp only at hSw); go_simp; try with_reducible rfl)
        try simp only [Act.put, List.setIfInBounds_toArray, List.set_cons_zero, List.set_cons_succ]
        refine wpAnyH_ready (rs := [7]) (by kernel_rfl) (by simp) (AllReadyH.cons (o := _) rfl (fun K hK => ?b2y12x7) AllReadyH.nil)
        go_simp
        refine hK.out _ _ ?_ (fun hHeld => ?_)
        · ((try dsimp only); first | done | trivial)
        clear hK K; try simp only [Act.put, List.setIfInBounds_toArray, List.set_cons_zero, List.set_cons_succ]
        refine wpAnyH_done (by kernel_rfl) ?_ _
    all_goals
      try go_wp2_with fail
      go_end0
      exact ⟨rfl, _, HEND.out w1 w3 a1 c1 _ HO1.out HB1.out HO3.out HG3.out⟩
end Go.Proofs.YtcbebefdbdppdaaGreat
namespace Go.Proofs.YtcbebefdbdppdaaGreat
open Go.RowKit Go.Maps
theorem cutB_short {s k nk : Nat} {rk : List UInt8} {L : List Nat} (h : rk.length < nk + 4) : cutB s k rk (nk :: L) = ([], false) :: cutB s (k + 1) [] L := by
  show (if _ then _ else _) = _
  rw [if_pos h]
theorem cutB_long {s k nk : Nat} {rk : List UInt8} {L : List Nat} (h : ¬ rk.length < nk + 4) : cutB s k rk (nk :: L) = (rk.take nk, decide (unle ((rk.drop nk).take 4) = ownSum s k (rk.take nk))) :: cutB s (k + 1) (rk.drop (nk + 4)) L := by
  show (if _ then _ else _) = _
  rw [if_neg h]
theorem own_touch {w w' : World} {b0 b Rb Sb : Nat} {e : TypeId} {n : Nat} {v sv : Value} {xs : List Value} {cr cs : Array Value} {l : List (List UInt8)} (h : w.ownsRow b0 e 1 v n xs) (hR : Blk w Rb 4 cr) (hS : Blk w Sb 31 cs) (hB : BlkOwn w b sv l) (h1 : e ≠ 4) (h2 : e ≠ 31) (h3 : e ≠ 46) (ht : Touch (fun k => k = Rb ∨ k = Sb ∨ sv.ownBlock = some k) w w') : w'.ownsRow b0 e 1 v n xs :=
  ownsRow_keep h fun k hk => by
    refine ht.block k (h.lt k hk).2 ?_
    rintro (e1 | e1 | e1)
    · subst e1; exact own_blk_ne h hR h1 hk
    · subst e1; exact own_blk_ne h hS h2 hk
    · obtain ⟨vs, hv, _⟩ := hB.row
      rcases hv.2 with ⟨rfl, _⟩ | ⟨g, cap, cur, rfl, _, hgb, _⟩
      · cases e1
      · have : g = k := by simpa [Value.ownBlock] using e1
        subst this
        exact own_blk_ne h hgb h3 hk
theorem own_block_ge {w : World} {b : Nat} {sv : Value} {l : List (List UInt8)} (h : BlkOwn w b sv l) {k : Nat} (hk : sv.ownBlock = some k) : b ≤ k := by
  obtain ⟨vs, hv, _⟩ := h.row
  exact (hv.lt k hk).1
def RestAt (w : World) (b : Nat) (v : Value) (rk : List UInt8) : Prop := ∃ A c, v = .slice A rk.length c ∧ rk.length ≤ c ∧ Reads w b 1 A rk.length (rk.map B8) ∧ (0 < rk.length → ∃ g o, A = some ⟨g, o, none⟩)
theorem RestAt.below {w w' : World} {b : Nat} {v : Value} {rk : List UInt8} (h : RestAt w b v rk) (hb : Below b w w') : RestAt w' b v rk := by
  obtain ⟨A, c, h1, h2, h3, h4⟩ := h
  exact ⟨A, c, h1, h2, h3.below hb, h4⟩
theorem RestAt.nil (w : World) (b : Nat) : RestAt w b (.slice none 0 0) [] := ⟨none, 0, rfl, Nat.le_refl _, ⟨rfl, fun h => absurd h (Nat.lt_irrefl 0)⟩, fun h => absurd h (Nat.lt_irrefl 0)⟩
structure BlkSt (w wr : World) (b b0 Rb Sb : Nat) (r : Bool) (CK : Array Value) (l : List (List UInt8)) (q : Nat) (L : List Nat) (tot : List (List UInt8 × Bool)) (gl : Option Addr) (cl : Nat) (k : Nat) (s8 : Value) : Prop where
  ex : ∃ done rk sv, tot = done ++ cutB q k rk (L.drop k) ∧ done.length = k ∧ RestAt wr b s8 rk ∧ rk.length ≤ 1099511627776 ∧ Blk wr Rb 4 #[.bool (r && done.all (·.2))] ∧ Blk wr Sb 31 (CK.push sv) ∧ BlkOwn wr b sv (l ++ done.map (·.1))
  lens : wr.ownsRow b0 3 1 (.slice gl L.length cl) L.length (L.map lenV)
  below : Below b w wr
theorem BlkSt.step {w w2 : World} {b b0 Rb Sb : Nat} {r : Bool} {CK : Array Value} {l : List (List UInt8)} {q : Nat} {L : List Nat} {tot done : List (List UInt8 × Bool)} {gl : Option Addr} {cl k : Nat} {s8 : Value} {x rk : List UInt8} {wh : Bool} {sv2 : Value}
    (htt : tot = done ++ (x, wh) :: cutB q (k + 1) rk (L.drop (k + 1))) (hdl : done.length = k) (hra : RestAt w2 b s8 rk) (hrl : rk.length ≤ 1099511627776) (h1 : Blk w2 Rb 4 #[.bool ((r && done.all (·.2)) && wh)]) (h2 : Blk w2 Sb 31 (CK.push sv2)) (h3 : BlkOwn w2 b sv2 ((l ++ done.map (·.1)) ++ [x]))
    (hl : w2.ownsRow b0 3 1 (.slice gl L.length cl) L.length (L.map lenV)) (hb : Below b w w2) : BlkSt w w2 b b0 Rb Sb r CK l q L tot gl cl (k + 1) s8 where
  ex := by
    refine ⟨done ++ [(x, wh)], rk, sv2, by rw [htt, List.append_assoc]; rfl, by rw [List.length_append, hdl]; rfl, hra, hrl, ?_, h2, ?_⟩
    · have e : (done ++ [(x, wh)]).all (·.2) = (done.all (·.2) && wh) := by rw [List.all_append]; simp
      rw [e, ← Bool.and_assoc]; exact h1
    · rw [List.map_append, ← List.append_assoc]; exact h3
  lens := hl
  below := hb
end Go.Proofs.YtcbebefdbdppdaaGreat
namespace Go.Proofs.YtcbebefdbdppdaaGreat
open Go.RowKit Go.Maps
theorem w64n4 {k : Nat} (h : k ≤ 65536) : wrap64 ((k : Int) + 4) = (k : Int) + 4 := w64 (by omega) (by omega)
theorem w64o {k : Nat} (h : k ≤ 255) : wrap64 (36 + (k : Int)) = 36 + (k : Int) ∧ wrap64 (36 + (k : Int) + 4) = ((40 + k : Nat) : Int) := ⟨w64 (by omega) (by omega), by rw [show 36 + (k : Int) + 4 = ((40 + k : Nat) : Int) by omega]; exact w64 (by omega) (by omega)⟩
theorem lt4I {k n : Nat} (h : k < n + 4) : (k : Int) < (n : Int) + 4 := by omega
theorem nlt4I {k n : Nat} (h : ¬ k < n + 4) : ¬ (k : Int) < (n : Int) + 4 := by omega
theorem le4I {k n : Nat} (h : n + 4 ≤ k) : (n : Int) + 4 ≤ (k : Int) := by omega
theorem drop_cons {L : List Nat} {k nk : Nat} (h : L[k]? = some nk) : L.drop k = nk :: L.drop (k + 1) := by
  obtain ⟨hk, e⟩ := List.getElem?_eq_some_iff.1 h
  rw [List.drop_eq_getElem_cons hk, e]
theorem leI {k n : Nat} (h : k ≤ n) : (k : Int) ≤ (n : Int) := by omega
set_option maxRecDepth 100000 in
set_option maxHeartbeats 8000000 in
theorem blocks_any (h : Hd) (hw : h.st.length = 8) (f : h.Fit) (q : Nat) (hq : q < 4294967296) (g n c : Nat) (bs : List UInt8) (r : Bool) (Rb Sb b : Nat) (CK : Array Value) (sv : Value) (w : World) (hcs : CK.size = 16)
    (hx : Reads w b 1 (some ⟨g, 0, none⟩) n (bs.map B8)) (hnc : n ≤ c) (hn : n ≤ 1099511627776) (hlen : 40 + h.key.length ≤ n) (hR : Blk w Rb 4 #[.bool r]) (hS : Blk w Sb 31 (CK.push sv)) (hB : BlkOwn w b sv []) (hb : b ≤ w.heap.size) (hRb : b ≤ Rb) (hSb : b ≤ Sb) :
    Calls Tryz.prog 130 #[hdV h, .int .u32 (q : Int), .slice (some ⟨g, 0, none⟩) n c, .func (.func 131) #[] #[.pointer (some ⟨Rb, 0, none⟩), .pointer (some ⟨Sb, 0, none⟩)]] w fun e w' => e = .returned (.tuple #[]) ∧
      ∃ sv', Blk w' Rb 4 #[.bool (r && (cutB q 0 (bs.drop (40 + h.key.length)) h.lens).all (·.2))] ∧ Blk w' Sb 31 (CK.push sv') ∧ BlkOwn w' b sv' ((cutB q 0 (bs.drop (40 + h.key.length)) h.lens).map (·.1)) ∧ Below b w w' := by
  obtain ⟨a0, a1, a2, a3, a4, a5, a6, a7, hst⟩ := lab_eight hw
  obtain ⟨K, M, B, S, I, E, C, nu⟩ := f.nums
  obtain ⟨hl1, hl2⟩ := fit_lens f
  have f4 := f.key
  have HF := Lib.hid (fun W => flens_any K B S (M : Int) nu.hK nu.hB nu.hS nu.hN W)
  rw [← nu.lens] at HF
  have e1 := nu.k; have e2 := nu.m; have e3 := nu.b; have e4 := nu.size
  obtain ⟨s, hs⟩ : ∃ s : ByteArray, s = ⟨h.key.toArray⟩ := ⟨_, rfl⟩
  have hsz : s.size = h.key.length := by rw [hs]; exact size_toBA h.key
  have HH : Hid (hdV h = .agg #[.int .u8 (a0.toNat : Int), .int .u8 (a1.toNat : Int), .int .u8 (a2.toNat : Int), .int .u8 (a3.toNat : Int), .int .u8 (a4.toNat : Int), .int .u8 (a5.toNat : Int), .int .u8 (a6.toNat : Int), .int .u8 (a7.toNat : Int), .int .i64 (K : Int), .int .i64 (M : Int), .int .i64 (B : Int), .string s, .int .i64 (S : Int), .int .i64 h.idx, .int .i64 h.ep, .int .i64 h.cn]) := Lib.hid (by unfold hdV hdCells strV; rw [hst, e1, e2, e3, e4, hs]; rfl)
  rw [HH.out]
  obtain ⟨L, hL⟩ : ∃ L, L = h.lens := ⟨_, rfl⟩
  rw [← hL] at HF hl1 hl2 ⊢
  have hbl : bs.length = n := by have := hx.1; simpa using this
  obtain ⟨o, ho⟩ : ∃ o, o = 40 + h.key.length := ⟨_, rfl⟩
  rw [← ho] at hlen ⊢
  obtain ⟨b1, b2⟩ := w64o (k := s.size) (by omega)
  rw [show 40 + s.size = o by omega] at b2
  obtain ⟨tot, htot⟩ : ∃ t, t = cutB q 0 (bs.drop o) L := ⟨_, rfl⟩
  rw [← htot]
  have hoc : (o : Int) ≤ (c : Int) := by clear b1 b2; omega
  have hon : (o : Int) ≤ (n : Int) := by clear b1 b2; omega
  have HR0 : Hid (RestAt w b (.slice (if c = o then some ⟨g, 0, none⟩ else some ⟨g, o, none⟩) (n - o) (c - o)) (bs.drop o)) := Lib.hid (by
    clear b1 b2
    have hl : (bs.drop o).length = n - o := by rw [List.length_drop, hbl]
    have h1 := hx.cut (k := o) (cap := c) hlen hnc
    rw [Nat.mul_one, ← List.map_drop] at h1
    have e : (if c = o then some (⟨g, 0, none⟩ : Addr) else (some (⟨g, 0, none⟩ : Addr)).map (·.add o)) = if c = o then some ⟨g, 0, none⟩ else some ⟨g, o, none⟩ := by
      split
      · rfl
      · show some ((⟨g, 0, none⟩ : Addr).add o) = _
        rw [add_plain, Nat.zero_add]
    rw [e, ← hl] at h1
    refine ⟨_, c - o, by rw [hl], by rw [hl]; omega, h1, fun _ => ?_⟩
    split <;> exact ⟨_, _, rfl⟩)
  have HT0 : Hid (tot = [] ++ cutB q 0 (bs.drop o) (L.drop 0)) := Lib.hid (by rw [htot, List.drop_zero]; rfl)
  have HRL : Hid ((bs.drop o).length ≤ 1099511627776) := Lib.hid (by clear b1 b2; rw [List.length_drop, hbl]; omega)
  have HLL : Hid (∀ x ∈ L, x ≤ 65536) := Lib.hid hl2
  have HL1 : Hid (L.length ≤ 4096) := Lib.hid hl1
  have HQ := Lib.hid hq
  have HRr := Lib.hid hR
  have HSs := Lib.hid hS
  have HBb := Lib.hid hB
  have HCS := Lib.hid hcs
  have HBS : Hid (b ≤ w.heap.size ∧ b ≤ Rb ∧ b ≤ Sb) := Lib.hid ⟨hb, hRb, hSb⟩
  clear hst nu f e1 e2 e3 e4 hs hsz hL hl1 hl2 hw f4 hbl ho htot hx hnc hn hlen hR hS hB hb hRb hSb hcs hq
  go_enter Tryz.func130, Tryz.ntmps130
  by_cases hce : c = o
  · go_wp2_with fail
    have HR1 : Hid (RestAt w b (.slice (some ⟨g, 0, none⟩) (n - o) 0) (bs.drop o)) := Lib.hid (by have h := HR0.out; rw [if_pos hce, hce, Nat.sub_self] at h; exact h)
    refine (HF.out _).mono ?_
    rintro e w1 ⟨v1, rfl, ho1, hb1⟩
    obtain ⟨gl, cl, rfl, _⟩ := own_shape ho1
    have HB1 : Hid (Below w.heap.size w w1) := Lib.hid (((Below.refl _ w).alloc (Nat.le_refl _) _).trans (hb1.mono (by rw [alloc_size]; omega)))
    have HS1 : Hid (BlkSt w w1 b w.heap.size Rb Sb r CK [] q L tot gl cl 0 (.slice (some ⟨g, 0, none⟩) (n - o) 0)) := Lib.hid ⟨⟨[], bs.drop o, sv, HT0.out, rfl, HR1.out.below (HB1.out.mono HBS.out.1), HRL.out, by rw [List.all_nil, Bool.and_true]; exact HRr.out.below HB1.out HRr.out.lt, HSs.out.below HB1.out HSs.out.lt, HBb.out.below HB1.out⟩, ownsRow_base_a ho1 (by rw [alloc_size]; exact Nat.le_succ _), HB1.out.mono HBS.out.1⟩
    clear ho1 hb1 b1 b2 hoc hon hce
    go_wp2_with fail
    go_loopw [8, 9, 10, 11, 25] (fun s8 _ _ _ s25 wr => ∃ k : Nat, k ≤ L.length ∧ s25 = .int .i64 (k : Int) ∧ BlkSt w wr b w.heap.size Rb Sb r CK [] q L tot gl cl k s8) (fun _ _ _ _ s _ => L.length - (intOf s).toNat)
    case atStart => exact ⟨0, Nat.zero_le _, rfl, HS1.out⟩
    case round =>
      obtain ⟨k, hk, rfl, hst⟩ := hrel
      have hk0 : (0 : Int) ≤ (k : Int) := Int.natCast_nonneg _
      by_cases hlt : k < L.length
      · have hlt' : (k : Int) < (L.length : Int) := ltI hlt
        have HK2 := Lib.hid (w64k hlt HL1.out)
        obtain ⟨done, rk, sv1, htt, hdl, hra, hrl, hr1, hs1, hbo⟩ := hst.ex
        obtain ⟨A1, c1, rfl, hrc, hrd, hgo⟩ := hra
        have HLEN := Lib.hid hst.lens
        have HBEL := Lib.hid hst.below
        obtain ⟨nk, hnk⟩ : ∃ nk, L[k]? = some nk := ⟨_, List.getElem?_eq_getElem hlt⟩
        obtain ⟨ad, u, hgl, _, hu, hc⟩ := (Reads.of_own hst.lens).at_ hlt
        subst hgl
        have hue : u = .int .i64 (nk : Int) := by
          rw [List.getElem?_map, hnk] at hu
          exact (Option.some.inj hu).symm
        subst hue
        have wn4 := w64n4 (HLL.out nk (List.mem_of_getElem? hnk))
        have HNK : Hid (nk ≤ 65536) := Lib.hid (HLL.out nk (List.mem_of_getElem? hnk))
        have HDR := Lib.hid (drop_cons hnk)
        have HTT := Lib.hid htt
        have HDL := Lib.hid hdl
        have HRL1 := Lib.hid hrl
        have HR1' := Lib.hid hr1
        have HS1' := Lib.hid hs1
        have HBO := Lib.hid hbo
        have HRD := Lib.hid hrd
        have HRC := Lib.hid hrc
        have HDN : Hid ((([] : List (List UInt8)) ++ done.map (·.1)).length ≤ 4096) := Lib.hid (by rw [List.nil_append, List.length_map, hdl]; exact Nat.le_trans hk HL1.out)
        have HKB : Hid (k < 4294967296) := Lib.hid (Nat.lt_of_lt_of_le hlt (Nat.le_trans HL1.out (by decide)))
        have hbz : b ≤ wr.heap.size := Nat.le_trans HBS.out.1 hst.below.size
        clear hst htt hdl hrl hr1 hs1 hbo hrd hnk hu
        by_cases hsh : rk.length < nk + 4
        · have hsi := lt4I hsh
          have hcut : Hid (tot = done ++ ([], false) :: cutB q (k + 1) [] (L.drop (k + 1))) := Lib.hid (by rw [HTT.out, HDR.out, cutB_short hsh])
          clear hsh hrc hgo
          go_wp2_with fail
          refine (parse1_any (k : Int) none 0 0 [] false (r && done.all (·.2)) Rb Sb b CK sv1 ([] ++ done.map (·.1)) wr HCS.out HR1'.out HS1'.out HBO.out hbz HBS.out.2.1 ⟨rfl, fun h => absurd h (Nat.lt_irrefl 0)⟩ (by decide) HDN.out).mono ?_
          rintro e w2 ⟨rfl, sv2, h1, h2, h3, h4⟩
          have HNX : Hid (BlkSt w w2 b w.heap.size Rb Sb r CK [] q L tot (some ad) cl (k + 1) (.slice none 0 0)) := Lib.hid (BlkSt.step hcut.out HDL.out (RestAt.nil _ _) (by decide) h1 h2 h3 (own_touch HLEN.out HR1'.out HS1'.out HBO.out (by decide) (by decide) (by decide) h4) (HBEL.out.trans (h4.below hbz fun i hi => by
            rcases hi with e | e | e
            · rw [e]; exact HBS.out.2.1
            · rw [e]; exact HBS.out.2.2
            · exact own_block_ge HBO.out e)))
          clear h1 h2 h3 h4 wn4 hsi
          go_wp2_with fail
          go_roundw
          case rel => exact ⟨k + 1, hlt, by rw [HK2.out]; rfl, HNX.out⟩
          case measure => rw [HK2.out]; simp [intOf]; omega
        · have hsi := nlt4I hsh
          have hge : nk + 4 ≤ rk.length := Nat.le_of_not_lt hsh
          obtain ⟨g1, o1, hA1⟩ := hgo (Nat.lt_of_lt_of_le (Nat.succ_pos _) hge)
          subst hA1
          have hcut : Hid (tot = done ++ (rk.take nk, decide (unle ((rk.drop nk).take 4) = ownSum q k (rk.take nk))) :: cutB q (k + 1) (rk.drop (nk + 4)) (L.drop (k + 1))) := Lib.hid (by rw [HTT.out, HDR.out, cutB_long hsh])
          have hgc : nk + 4 ≤ c1 := Nat.le_trans hge hrc
          have hc1 : (nk : Int) ≤ (c1 : Int) := leI (Nat.le_trans (Nat.le_add_right _ 4) hgc)
          have hc14 : (nk : Int) + 4 ≤ (c1 : Int) := le4I hgc
          have hcn : ¬ c1 = nk := Nat.ne_of_gt (Nat.lt_of_lt_of_le (Nat.lt_add_of_pos_right (by decide)) hgc)
          have hr4 : (nk : Int) + 4 ≤ (rk.length : Int) := le4I hge
          have HGE := Lib.hid hge
          have HGC := Lib.hid hgc
          clear hsh hrc hgo hge hgc
          have HXB : Hid (∀ W, Below b wr W → Reads W b 1 (some ⟨g1, o1, none⟩) nk ((rk.take nk).map B8)) := Lib.hid fun W hW => by
            have h := reads_take (HRD.out.below hW) (j := nk) (Nat.le_trans (Nat.le_add_right _ 4) HGE.out)
            rw [← List.map_take] at h
            exact h
          have HTL : Hid ((rk.take nk).length = nk) := Lib.hid (by rw [List.length_take]; exact Nat.min_eq_left (Nat.le_trans (Nat.le_add_right _ 4) HGE.out))
          obtain ⟨SB, hSB⟩ : ∃ SB, SB = (rk.drop nk).take 4 := ⟨_, rfl⟩
          have HX5 : Hid (Reads wr b 1 (some ⟨g1, o1 + nk, none⟩) 4 (SB.map B8)) := Lib.hid (by
            have hg := HGE.out
            have h := reads_take (reads_drop HRD.out (j := nk) (by clear wn4; omega)) (j := 4) (by clear wn4; omega)
            rw [← List.map_drop, ← List.map_take, ← hSB] at h
            exact h)
          have HSBL : Hid (SB.length = 4) := Lib.hid (by rw [hSB, List.length_take, List.length_drop]; have := HGE.out; clear wn4; omega)
          rw [← hSB] at hcut
          clear hSB
          go_wp2_with fail
          refine (open_any (some ⟨g1, o1 + nk, none⟩) 4 _ SB wr _ HX5.out (by decide) (by decide)).mono ?_
          rintro e w2 ⟨r5, g5, d5, rfl, hrd5, hr5, hg5, hb2⟩
          have HRD5 := Lib.hid hrd5
          have HB2 := Lib.hid hb2
          clear hrd5 hb2 hg5
          go_wp2_with fail
          refine (take32_any r5 g5 4 d5 0 SB w2 HRD5.out (by decide)).mono ?_
          have HS5 : Hid ((SB.drop 0).take 4 = SB) := Lib.hid (by rw [List.drop_zero, List.take_of_length_le (by rw [HSBL.out]; exact Nat.le_refl _)])
          rw [HS5.out]
          rintro e w3 ⟨rfl, hrd6, ht6⟩
          have HB3 : Hid (Below wr.heap.size wr w3) := Lib.hid (HB2.out.trans (ht6.below HB2.out.size fun i (hi : i = r5) => by rw [hi]; exact hr5))
          clear hrd6 ht6 hr5
          go_wp2_with fail
          refine (own_any q k (some ⟨g1, o1, none⟩) nk c1 (rk.take nk) w3 ((HXB.out w3 (HB3.out.mono hbz)).more (Nat.le_trans hbz HB3.out.size)) HQ.out HKB.out (Nat.le_trans HNK.out (by decide))).mono ?_
          rintro e w4 ⟨rfl, hb4⟩
          have HB4 : Hid (Below wr.heap.size wr w4) := Lib.hid (HB3.out.trans (hb4.mono HB3.out.size))
          clear hb4
          have hbz4 : b ≤ w4.heap.size := Nat.le_trans hbz HB4.out.size
          obtain ⟨q5, hq5⟩ : ∃ q5, q5 = unle SB := ⟨_, rfl⟩
          obtain ⟨q6, hq6⟩ : ∃ q6, q6 = ownSum q k (rk.take nk) := ⟨_, rfl⟩
          rw [← hq5, ← hq6] at hcut ⊢
          clear hq5 hq6
          obtain ⟨wh, hwh⟩ : ∃ wh, wh = decide (q5 = q6) := ⟨_, rfl⟩
          rw [← hwh] at hcut
          have HBE : Hid (((q5 : Int) == (q6 : Int)) = wh) := Lib.hid (by
            rw [hwh]
            by_cases e : q5 = q6
            · rw [e]; simp
            · rw [decide_eq_false e]; exact beq_eq_false_iff_ne.2 (fun h => e (Int.ofNat.inj h)))
          go_wp2_with fail
          rw [HBE.out]
          clear hwh HBE
          refine (parse1_any (k : Int) (some ⟨g1, o1, none⟩) nk c1 (rk.take nk) wh (r && done.all (·.2)) Rb Sb b CK sv1 ([] ++ done.map (·.1)) w4 HCS.out (HR1'.out.below HB4.out HR1'.out.lt) (HS1'.out.below HB4.out HS1'.out.lt) (HBO.out.below HB4.out) hbz4 HBS.out.2.1 (HXB.out w4 (HB4.out.mono hbz)) (Nat.le_trans HNK.out (by decide)) HDN.out).mono ?_
          rintro e w5 ⟨rfl, sv2, h1, h2, h3, h4⟩
          have HB5 : Hid (Below b w4 w5) := Lib.hid (h4.below hbz4 fun i hi => by
            rcases hi with e | e | e
            · rw [e]; exact HBS.out.2.1
            · rw [e]; exact HBS.out.2.2
            · exact own_block_ge HBO.out e)
          have HL5 := Lib.hid (own_touch (ownsRow_below HLEN.out HB4.out) (HR1'.out.below HB4.out HR1'.out.lt) (HS1'.out.below HB4.out HS1'.out.lt) (HBO.out.below HB4.out) (by decide) (by decide) (by decide) h4)
          have HB6 : Hid (Below b w w5) := Lib.hid (HBEL.out.trans ((HB4.out.mono hbz).trans HB5.out))
          have H1 := Lib.hid h1
          have H2 := Lib.hid h2
          have H3 := Lib.hid h3
          have HDL2 : Hid ((rk.drop (nk + 4)).length = rk.length - (nk + 4)) := Lib.hid (List.length_drop ..)
          have HRL2 : Hid ((rk.drop (nk + 4)).length ≤ 1099511627776) := Lib.hid (by rw [HDL2.out]; exact Nat.le_trans (Nat.sub_le _ _) HRL1.out)
          have HRE0 : Hid (RestAt w5 b (.slice (if c1 = nk + 4 then some ⟨g1, o1, none⟩ else some ⟨g1, o1 + (nk + 4), none⟩) (rk.length - (nk + 4)) (c1 - (nk + 4))) (rk.drop (nk + 4))) := Lib.hid (by
            have h1 := (HRD.out.below ((HB4.out.mono hbz).trans HB5.out)).cut (k := nk + 4) (cap := c1) HGE.out HRC.out
            rw [Nat.mul_one, ← List.map_drop] at h1
            have e : (if c1 = nk + 4 then some (⟨g1, o1, none⟩ : Addr) else (some (⟨g1, o1, none⟩ : Addr)).map (·.add (nk + 4))) = if c1 = nk + 4 then some ⟨g1, o1, none⟩ else some ⟨g1, o1 + (nk + 4), none⟩ := by
              split
              · rfl
              · show some ((⟨g1, o1, none⟩ : Addr).add (nk + 4)) = _
                rw [add_plain]
            rw [e, ← HDL2.out] at h1
            refine ⟨_, c1 - (nk + 4), by rw [HDL2.out], by rw [HDL2.out]; exact Nat.sub_le_sub_right HRC.out _, h1, fun _ => ?_⟩
            split <;> exact ⟨_, _, rfl⟩)
          clear h1 h2 h3 h4
          by_cases hce2 : c1 = nk + 4
          · have HRE : Hid (RestAt w5 b (.slice (some ⟨g1, o1, none⟩) (rk.length - (nk + 4)) (nk + 4 - (nk + 4))) (rk.drop (nk + 4))) := Lib.hid (by have h := HRE0.out; rw [if_pos hce2, hce2] at h; exact h)
            have HNX : Hid (BlkSt w w5 b w.heap.size Rb Sb r CK [] q L tot (some ad) cl (k + 1) (.slice (some ⟨g1, o1, none⟩) (rk.length - (nk + 4)) (nk + 4 - (nk + 4)))) := Lib.hid (BlkSt.step hcut.out HDL.out HRE.out HRL2.out H1.out H2.out H3.out HL5.out HB6.out)
            clear HRE0 HRE
            go_wp2_with fail
            clear wn4
            go_roundw
            case rel => exact ⟨k + 1, hlt, by rw [HK2.out]; rfl, HNX.out⟩
            case measure => rw [HK2.out]; simp [intOf]; omega
          · have HRE : Hid (RestAt w5 b (.slice (some ⟨g1, o1 + (nk + 4), none⟩) (rk.length - (nk + 4)) (c1 - (nk + 4))) (rk.drop (nk + 4))) := Lib.hid (by have h := HRE0.out; rw [if_neg hce2] at h; exact h)
            have HNX : Hid (BlkSt w w5 b w.heap.size Rb Sb r CK [] q L tot (some ad) cl (k + 1) (.slice (some ⟨g1, o1 + (nk + 4), none⟩) (rk.length - (nk + 4)) (c1 - (nk + 4)))) := Lib.hid (BlkSt.step hcut.out HDL.out HRE.out HRL2.out H1.out H2.out H3.out HL5.out HB6.out)
            clear HRE0 HRE
            go_wp2_with fail
            clear wn4
            go_roundw
            case rel => exact ⟨k + 1, hlt, by rw [HK2.out]; rfl, HNX.out⟩
            case measure => rw [HK2.out]; simp [intOf]; omega
      · obtain rfl : k = L.length := Nat.le_antisymm hk (Nat.le_of_not_lt hlt)
        obtain ⟨done, rk, sv1, htt, hdl, hra, hrl, hr1, hs1, hbo⟩ := hst.ex
        have htot : tot = done := by rw [htt, List.drop_length]; show done ++ [] = done; rw [List.append_nil]
        subst htot
        have HF1 := Lib.hid hr1
        have HF2 := Lib.hid hs1
        have HF3 : Hid (BlkOwn wr b sv1 (tot.map (·.1))) := Lib.hid (by rw [List.nil_append] at hbo; exact hbo)
        have HF4 := Lib.hid hst.below
        clear hst htt hdl hra hrl hr1 hs1 hbo
        go_wp2_with fail
        go_end0
        exact ⟨rfl, sv1, HF1.out, HF2.out, HF3.out, HF4.out⟩
  · go_wp2_with fail
    have HR1 : Hid (RestAt w b (.slice (some ⟨g, o, none⟩) (n - o) (c - o)) (bs.drop o)) := Lib.hid (by have h := HR0.out; rw [if_neg hce] at h; exact h)
    refine (HF.out _).mono ?_
    rintro e w1 ⟨v1, rfl, ho1, hb1⟩
    obtain ⟨gl, cl, rfl, _⟩ := own_shape ho1
    have HB1 : Hid (Below w.heap.size w w1) := Lib.hid (((Below.refl _ w).alloc (Nat.le_refl _) _).trans (hb1.mono (by rw [alloc_size]; omega)))
    have HS1 : Hid (BlkSt w w1 b w.heap.size Rb Sb r CK [] q L tot gl cl 0 (.slice (some ⟨g, o, none⟩) (n - o) (c - o))) := Lib.hid ⟨⟨[], bs.drop o, sv, HT0.out, rfl, HR1.out.below (HB1.out.mono HBS.out.1), HRL.out, by rw [List.all_nil, Bool.and_true]; exact HRr.out.below HB1.out HRr.out.lt, HSs.out.below HB1.out HSs.out.lt, HBb.out.below HB1.out⟩, ownsRow_base_a ho1 (by rw [alloc_size]; exact Nat.le_succ _), HB1.out.mono HBS.out.1⟩
    clear ho1 hb1 b1 b2 hoc hon hce
    go_wp2_with fail
    go_loopw [8, 9, 10, 11, 25] (fun s8 _ _ _ s25 wr => ∃ k : Nat, k ≤ L.length ∧ s25 = .int .i64 (k : Int) ∧ BlkSt w wr b w.heap.size Rb Sb r CK [] q L tot gl cl k s8) (fun _ _ _ _ s _ => L.length - (intOf s).toNat)
    case atStart => exact ⟨0, Nat.zero_le _, rfl, HS1.out⟩
    case round =>
      obtain ⟨k, hk, rfl, hst⟩ := hrel
      have hk0 : (0 : Int) ≤ (k : Int) := Int.natCast_nonneg _
      by_cases hlt : k < L.length
      · have hlt' : (k : Int) < (L.length : Int) := ltI hlt
        have HK2 := Lib.hid (w64k hlt HL1.out)
        obtain ⟨done, rk, sv1, htt, hdl, hra, hrl, hr1, hs1, hbo⟩ := hst.ex
        obtain ⟨A1, c1, rfl, hrc, hrd, hgo⟩ := hra
        have HLEN := Lib.hid hst.lens
        have HBEL := Lib.hid hst.below
        obtain ⟨nk, hnk⟩ : ∃ nk, L[k]? = some nk := ⟨_, List.getElem?_eq_getElem hlt⟩
        obtain ⟨ad, u, hgl, _, hu, hc⟩ := (Reads.of_own hst.lens).at_ hlt
        subst hgl
        have hue : u = .int .i64 (nk : Int) := by
          rw [List.getElem?_map, hnk] at hu
          exact (Option.some.inj hu).symm
        subst hue
        have wn4 := w64n4 (HLL.out nk (List.mem_of_getElem? hnk))
        have HNK : Hid (nk ≤ 65536) := Lib.hid (HLL.out nk (List.mem_of_getElem? hnk))
        have HDR := Lib.hid (drop_cons hnk)
        have HTT := Lib.hid htt
        have HDL := Lib.hid hdl
        have HRL1 := Lib.hid hrl
        have HR1' := Lib.hid hr1
        have HS1' := Lib.hid hs1
        have HBO := Lib.hid hbo
        have HRD := Lib.hid hrd
        have HRC := Lib.hid hrc
        have HDN : Hid ((([] : List (List UInt8)) ++ done.map (·.1)).length ≤ 4096) := Lib.hid (by rw [List.nil_append, List.length_map, hdl]; exact Nat.le_trans hk HL1.out)
        have HKB : Hid (k < 4294967296) := Lib.hid (Nat.lt_of_lt_of_le hlt (Nat.le_trans HL1.out (by decide)))
        have hbz : b ≤ wr.heap.size := Nat.le_trans HBS.out.1 hst.below.size
        clear hst htt hdl hrl hr1 hs1 hbo hrd hnk hu
        by_cases hsh : rk.length < nk + 4
        · have hsi := lt4I hsh
          have hcut : Hid (tot = done ++ ([], false) :: cutB q (k + 1) [] (L.drop (k + 1))) := Lib.hid (by rw [HTT.out, HDR.out, cutB_short hsh])
          clear hsh hrc hgo
          go_wp2_with fail
          refine (parse1_any (k : Int) none 0 0 [] false (r && done.all (·.2)) Rb Sb b CK sv1 ([] ++ done.map (·.1)) wr HCS.out HR1'.out HS1'.out HBO.out hbz HBS.out.2.1 ⟨rfl, fun h => absurd h (Nat.lt_irrefl 0)⟩ (by decide) HDN.out).mono ?_
          rintro e w2 ⟨rfl, sv2, h1, h2, h3, h4⟩
          have HNX : Hid (BlkSt w w2 b w.heap.size Rb Sb r CK [] q L tot (some ad) cl (k + 1) (.slice none 0 0)) := Lib.hid (BlkSt.step hcut.out HDL.out (RestAt.nil _ _) (by decide) h1 h2 h3 (own_touch HLEN.out HR1'.out HS1'.out HBO.out (by decide) (by decide) (by decide) h4) (HBEL.out.trans (h4.below hbz fun i hi => by
            rcases hi with e | e | e
            · rw [e]; exact HBS.out.2.1
            · rw [e]; exact HBS.out.2.2
            · exact own_block_ge HBO.out e)))
          clear h1 h2 h3 h4 wn4 hsi
          go_wp2_with fail
          go_roundw
          case rel => exact ⟨k + 1, hlt, by rw [HK2.out]; rfl, HNX.out⟩
          case measure => rw [HK2.out]; simp [intOf]; omega
        · have hsi := nlt4I hsh
          have hge : nk + 4 ≤ rk.length := Nat.le_of_not_lt hsh
          obtain ⟨g1, o1, hA1⟩ := hgo (Nat.lt_of_lt_of_le (Nat.succ_pos _) hge)
          subst hA1
          have hcut : Hid (tot = done ++ (rk.take nk, decide (unle ((rk.drop nk).take 4) = ownSum q k (rk.take nk))) :: cutB q (k + 1) (rk.drop (nk + 4)) (L.drop (k + 1))) := Lib.hid (by rw [HTT.out, HDR.out, cutB_long hsh])
          have hgc : nk + 4 ≤ c1 := Nat.le_trans hge hrc
          have hc1 : (nk : Int) ≤ (c1 : Int) := leI (Nat.le_trans (Nat.le_add_right _ 4) hgc)
          have hc14 : (nk : Int) + 4 ≤ (c1 : Int) := le4I hgc
          have hcn : ¬ c1 = nk := Nat.ne_of_gt (Nat.lt_of_lt_of_le (Nat.lt_add_of_pos_right (by decide)) hgc)
          have hr4 : (nk : Int) + 4 ≤ (rk.length : Int) := le4I hge
          have HGE := Lib.hid hge
          have HGC := Lib.hid hgc
          clear hsh hrc hgo hge hgc
          have HXB : Hid (∀ W, Below b wr W → Reads W b 1 (some ⟨g1, o1, none⟩) nk ((rk.take nk).map B8)) := Lib.hid fun W hW => by
            have h := reads_take (HRD.out.below hW) (j := nk) (Nat.le_trans (Nat.le_add_right _ 4) HGE.out)
            rw [← List.map_take] at h
            exact h
          have HTL : Hid ((rk.take nk).length = nk) := Lib.hid (by rw [List.length_take]; exact Nat.min_eq_left (Nat.le_trans (Nat.le_add_right _ 4) HGE.out))
          obtain ⟨SB, hSB⟩ : ∃ SB, SB = (rk.drop nk).take 4 := ⟨_, rfl⟩
          have HX5 : Hid (Reads wr b 1 (some ⟨g1, o1 + nk, none⟩) 4 (SB.map B8)) := Lib.hid (by
            have hg := HGE.out
            have h := reads_take (reads_drop HRD.out (j := nk) (by clear wn4; omega)) (j := 4) (by clear wn4; omega)
            rw [← List.map_drop, ← List.map_take, ← hSB] at h
            exact h)
          have HSBL : Hid (SB.length = 4) := Lib.hid (by rw [hSB, List.length_take, List.length_drop]; have := HGE.out; clear wn4; omega)
          rw [← hSB] at hcut
          clear hSB
          go_wp2_with fail
          refine (open_any (some ⟨g1, o1 + nk, none⟩) 4 _ SB wr _ HX5.out (by decide) (by decide)).mono ?_
          rintro e w2 ⟨r5, g5, d5, rfl, hrd5, hr5, hg5, hb2⟩
          have HRD5 := Lib.hid hrd5
          have HB2 := Lib.hid hb2
          clear hrd5 hb2 hg5
          go_wp2_with fail
          refine (take32_any r5 g5 4 d5 0 SB w2 HRD5.out (by decide)).mono ?_
          have HS5 : Hid ((SB.drop 0).take 4 = SB) := Lib.hid (by rw [List.drop_zero, List.take_of_length_le (by rw [HSBL.out]; exact Nat.le_refl _)])
          rw [HS5.out]
          rintro e w3 ⟨rfl, hrd6, ht6⟩
          have HB3 : Hid (Below wr.heap.size wr w3) := Lib.hid (HB2.out.trans (ht6.below HB2.out.size fun i (hi : i = r5) => by rw [hi]; exact hr5))
          clear hrd6 ht6 hr5
          go_wp2_with fail
          refine (own_any q k (some ⟨g1, o1, none⟩) nk c1 (rk.take nk) w3 ((HXB.out w3 (HB3.out.mono hbz)).more (Nat.le_trans hbz HB3.out.size)) HQ.out HKB.out (Nat.le_trans HNK.out (by decide))).mono ?_
          rintro e w4 ⟨rfl, hb4⟩
          have HB4 : Hid (Below wr.heap.size wr w4) := Lib.hid (HB3.out.trans (hb4.mono HB3.out.size))
          clear hb4
          have hbz4 : b ≤ w4.heap.size := Nat.le_trans hbz HB4.out.size
          obtain ⟨q5, hq5⟩ : ∃ q5, q5 = unle SB := ⟨_, rfl⟩
          obtain ⟨q6, hq6⟩ : ∃ q6, q6 = ownSum q k (rk.take nk) := ⟨_, rfl⟩
          rw [← hq5, ← hq6] at hcut ⊢
          clear hq5 hq6
          obtain ⟨wh, hwh⟩ : ∃ wh, wh = decide (q5 = q6) := ⟨_, rfl⟩
          rw [← hwh] at hcut
          have HBE : Hid (((q5 : Int) == (q6 : Int)) = wh) := Lib.hid (by
            rw [hwh]
            by_cases e : q5 = q6
            · rw [e]; simp
            · rw [decide_eq_false e]; exact beq_eq_false_iff_ne.2 (fun h => e (Int.ofNat.inj h)))
          go_wp2_with fail
          rw [HBE.out]
          clear hwh HBE
          refine (parse1_any (k : Int) (some ⟨g1, o1, none⟩) nk c1 (rk.take nk) wh (r && done.all (·.2)) Rb Sb b CK sv1 ([] ++ done.map (·.1)) w4 HCS.out (HR1'.out.below HB4.out HR1'.out.lt) (HS1'.out.below HB4.out HS1'.out.lt) (HBO.out.below HB4.out) hbz4 HBS.out.2.1 (HXB.out w4 (HB4.out.mono hbz)) (Nat.le_trans HNK.out (by decide)) HDN.out).mono ?_
          rintro e w5 ⟨rfl, sv2, h1, h2, h3, h4⟩
          have HB5 : Hid (Below b w4 w5) := Lib.hid (h4.below hbz4 fun i hi => by
            rcases hi with e | e | e
            · rw [e]; exact HBS.out.2.1
            · rw [e]; exact HBS.out.2.2
            · exact own_block_ge HBO.out e)
          have HL5 := Lib.hid (own_touch (ownsRow_below HLEN.out HB4.out) (HR1'.out.below HB4.out HR1'.out.lt) (HS1'.out.below HB4.out HS1'.out.lt) (HBO.out.below HB4.out) (by decide) (by decide) (by decide) h4)
          have HB6 : Hid (Below b w w5) := Lib.hid (HBEL.out.trans ((HB4.out.mono hbz).trans HB5.out))
          have H1 := Lib.hid h1
          have H2 := Lib.hid h2
          have H3 := Lib.hid h3
          have HDL2 : Hid ((rk.drop (nk + 4)).length = rk.length - (nk + 4)) := Lib.hid (List.length_drop ..)
          have HRL2 : Hid ((rk.drop (nk + 4)).length ≤ 1099511627776) := Lib.hid (by rw [HDL2.out]; exact Nat.le_trans (Nat.sub_le _ _) HRL1.out)
          have HRE0 : Hid (RestAt w5 b (.slice (if c1 = nk + 4 then some ⟨g1, o1, none⟩ else some ⟨g1, o1 + (nk + 4), none⟩) (rk.length - (nk + 4)) (c1 - (nk + 4))) (rk.drop (nk + 4))) := Lib.hid (by
            have h1 := (HRD.out.below ((HB4.out.mono hbz).trans HB5.out)).cut (k := nk + 4) (cap := c1) HGE.out HRC.out
            rw [Nat.mul_one, ← List.map_drop] at h1
            have e : (if c1 = nk + 4 then some (⟨g1, o1, none⟩ : Addr) else (some (⟨g1, o1, none⟩ : Addr)).map (·.add (nk + 4))) = if c1 = nk + 4 then some ⟨g1, o1, none⟩ else some ⟨g1, o1 + (nk + 4), none⟩ := by
              split
              · rfl
              · show some ((⟨g1, o1, none⟩ : Addr).add (nk + 4)) = _
                rw [add_plain]
            rw [e, ← HDL2.out] at h1
            refine ⟨_, c1 - (nk + 4), by rw [HDL2.out], by rw [HDL2.out]; exact Nat.sub_le_sub_right HRC.out _, h1, fun _ => ?_⟩
            split <;> exact ⟨_, _, rfl⟩)
          clear h1 h2 h3 h4
          by_cases hce2 : c1 = nk + 4
          · have HRE : Hid (RestAt w5 b (.slice (some ⟨g1, o1, none⟩) (rk.length - (nk + 4)) (nk + 4 - (nk + 4))) (rk.drop (nk + 4))) := Lib.hid (by have h := HRE0.out; rw [if_pos hce2, hce2] at h; exact h)
            have HNX : Hid (BlkSt w w5 b w.heap.size Rb Sb r CK [] q L tot (some ad) cl (k + 1) (.slice (some ⟨g1, o1, none⟩) (rk.length - (nk + 4)) (nk + 4 - (nk + 4)))) := Lib.hid (BlkSt.step hcut.out HDL.out HRE.out HRL2.out H1.out H2.out H3.out HL5.out HB6.out)
            clear HRE0 HRE
            go_wp2_with fail
            clear wn4
            go_roundw
            case rel => exact ⟨k + 1, hlt, by rw [HK2.out]; rfl, HNX.out⟩
            case measure => rw [HK2.out]; simp [intOf]; omega
          · have HRE : Hid (RestAt w5 b (.slice (some ⟨g1, o1 + (nk + 4), none⟩) (rk.length - (nk + 4)) (c1 - (nk + 4))) (rk.drop (nk + 4))) := Lib.hid (by have h := HRE0.out; rw [if_neg hce2] at h; exact h)
            have HNX : Hid (BlkSt w w5 b w.heap.size Rb Sb r CK [] q L tot (some ad) cl (k + 1) (.slice (some ⟨g1, o1 + (nk + 4), none⟩) (rk.length - (nk + 4)) (c1 - (nk + 4)))) := Lib.hid (BlkSt.step hcut.out HDL.out HRE.out HRL2.out H1.out H2.out H3.out HL5.out HB6.out)
            clear HRE0 HRE
            go_wp2_with fail
            clear wn4
            go_roundw
            case rel => exact ⟨k + 1, hlt, by rw [HK2.out]; rfl, HNX.out⟩
            case measure => rw [HK2.out]; simp [intOf]; omega
      · obtain rfl : k = L.length := Nat.le_antisymm hk (Nat.le_of_not_lt hlt)
        obtain ⟨done, rk, sv1, htt, hdl, hra, hrl, hr1, hs1, hbo⟩ := hst.ex
        have htot : tot = done := by rw [htt, List.drop_length]; show done ++ [] = done; rw [List.append_nil]
        subst htot
        have HF1 := Lib.hid hr1
        have HF2 := Lib.hid hs1
        have HF3 : Hid (BlkOwn wr b sv1 (tot.map (·.1))) := Lib.hid (by rw [List.nil_append] at hbo; exact hbo)
        have HF4 := Lib.hid hst.below
        clear hst htt hdl hra hrl hr1 hs1 hbo
        go_wp2_with fail
        go_end0
        exact ⟨rfl, sv1, HF1.out, HF2.out, HF3.out, HF4.out⟩
end Go.Proofs.YtcbebefdbdppdaaGreat

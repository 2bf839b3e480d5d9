/- BayWalks, walked: over a place with a drive that is not offline. (Printed by gen_Eg.py.); A walk over no drive. -/
import Derived.Test.YtcbebefdbdppdaaGreatM39
import Derived.Test.YtcbebefdbdppdaaGreatM46
import Derived.LoopNIn
import Derived.BigFrameIn
import Derived.Sort.CutIn
namespace Go.Proofs.YtcbebefdbdppdaaGreat
open Go.RowKit Go.Maps
attribute [local go_sem] Oper.semAt_some
def PPlace.bare (x : PPlace) : PPlace := { x with fused := false, plan := [] }
theorem bare_wnd (x : PPlace) : x.bare.wnd = { Wnd.new.arm [] with away := x.off } := rfl
theorem place_rd (x : PPlace) (hok : x.ok = true) (hoff : x.off = false) (hf : x.files.length ≤ 1048576) (hb : ∀ f ∈ x.files, f.2.length ≤ 1073741824) : Rd x.bare.wnd x.drv x.files.length := by
  have hlo : loadOk x.room x.files = true := by
    unfold PPlace.ok at hok
    simp only [Bool.and_eq_true] at hok
    exact hok.2
  unfold loadOk at hlo
  simp only [Bool.and_eq_true, decide_eq_true_eq] at hlo
  obtain ⟨⟨h0, h1⟩, hl⟩ := hlo
  have h := loadK_facts x.files (Drv.new x.room.toNat) 0 (Drv.new_inv _ 0 (by omega) (by omega)) rfl rfl (fun i hi => absurd hi (by simp [Drv.new])) hl hb (by omega)
  rw [Nat.zero_add] at h
  have hI : x.drv.Inv x.files.length := h.1
  have hdn : (dnames x.drv.now).length ≤ x.files.length := by rw [dnames_length]; exact hI.snow
  have hw : x.bare.wnd.Okn 0 := (Wnd.Okn.new.arm [] (Nat.zero_le _)).away x.off
  refine ⟨⟨rfl, by rw [bare_wnd]; exact hoff, rfl, rfl⟩, hw, ⟨_, by omega, hI⟩, hI.small (by omega), ⟨Nat.le_trans (keysL_length _ _) hdn, hdn⟩, hf⟩
theorem wpListIn_load_if {F : Fence} {n : Nat} {P : Program} {w : World} {ops : Array Oper} {rest : List Oper} {o : Oper} {a : Act} {Q : Exit → Act → World → Prop} (ty : TypeId) (x : Operand) (ho : o.op = .load ty x) (hgd : Region.wanted o (yielded ops a.tmps) = true)
    (ad : Addr) (hx : a.eval x = .pointer (some ad)) (v : Value) (hrun : (loadVar ty ad).run P w = .ok v w) (h : wpListIn F n P ops Q rest (a.put o.dst v) w) : wpListIn F n P ops Q (o :: rest) a w :=
  Go.BigFrame.wpListIn_want hgd fun _ hK => by
    unfold Oper.wpIn
    refine ⟨by simp [Oper.about, ho], ?_⟩
    rw [Oper.semAt_plain F _ _ (by rw [ho]; intro c hc; cases hc)]
    unfold execOp
    simp only [ho, hx, Instr.loadAt, Instr.sureAddr, Sem.run_bind, Sem.run_pure, Result.andThen_ok, hrun, Oper.uponIn]
    exact hK _ _ h
theorem glance_agg {ds : List UInt8} {x : Int} {want : Hd} {v : Value} (h : GlanceAt ds x want v) : ∃ cs, v = .agg cs ∧ cs.size = 19 ∧ ∀ u ∈ cs.toList, u.oneCell' = true := by
  unfold GlanceAt at h
  split at h
  · rename_i hc
    have hs : ((hdCells (Hd.ofB ds)).push (.slice none 0 0)).size = 17 := by rw [Array.size_push, hdCells_size (open_fixed hc.2.1).2.2.2.2.2]
    exact ⟨_, h, seenS_size hs, seenS_one (push_one (hd_one _))⟩
  · exact ⟨_, h, rfl, seen0_one _ _⟩
theorem load_hd_inV {w : World} {g : Nat} {t : TypeId} {h : Hd} {s : Value} (hg : Blk w g t (seenV 2 ((hdCells h).push s) 0)) (hs : h.st.length = 8) : (loadVar 28 ⟨g, 1, none⟩).run Tryz.prog w = .ok (hdV h) w := load_hd_in hg (hdCells_size hs)
def noPan (Q : Exit → Act → World → Prop) : Exit → Act → World → Prop
  | .panic _, _, _ => False
  | .normal, a, w => Q .normal a w
  | .exit i, a, w => Q (.exit i) a w
  | .goto l, a, w => Q (.goto l) a w
  | .ret, a, w => Q .ret a w
  | .outgrown, a, w => Q .outgrown a w
theorem noPan_normal {Q : Exit → Act → World → Prop} {a : Act} {w : World} (h : Q .normal a w) : noPan Q .normal a w := h
theorem wpIn_noPan {F : Fence} {n : Nat} {P : Program} {c : Code} {Q : Exit → Act → World → Prop} {a : Act} {w : World} (h : c.wpIn F n P (noPan Q) a w) : c.wpIn F n P Q a w := by
  refine wpIn_mono h ?_
  intro e a' w' hq
  cases e with
  | normal => exact hq
  | exit id => exact hq
  | goto l => exact hq
  | ret => exact hq
  | panic ch => exact hq.elim
  | outgrown => exact hq
def StrRow (w : World) (g : Nat) (ks : List (List UInt8)) : Prop := (ks ≠ [] → g < w.heap.size) ∧ ∀ (i : Nat) (k : List UInt8), ks[i]? = some k → w.cell? ⟨g, i, none⟩ = some (strV k)
theorem StrRow.touch {w w' : World} {g : Nat} {ks : List (List UInt8)} {G : Nat → Prop} (h : StrRow w g ks) (ht : Touch G w w') (hG : ks ≠ [] → ¬G g) : StrRow w' g ks :=
  ⟨fun he => Nat.lt_of_lt_of_le (h.1 he) ht.size, fun i k hi => by
    have he : ks ≠ [] := by intro e; rw [e] at hi; cases hi
    rw [← h.2 i k hi]
    exact World.cell?_of_block (ht.block g (h.1 he) (hG he))⟩
theorem strRow_of {w : World} {b n : Nat} {v : Value} {ks : List (List UInt8)} (h : w.ownsRow b 9 1 v n (ks.map strV)) (hn : ks.length = n) :
    ∃ g c A, v = .slice A n c ∧ (0 < n → A = some ⟨g, 0, none⟩) ∧ n ≤ c ∧ StrRow w g ks ∧ (ks ≠ [] → b ≤ g) := by
  rcases h.2 with ⟨rfl, rfl⟩ | ⟨g, cap, cur, rfl, hb, hg, hc, _, hz, ht⟩
  · obtain rfl : ks = [] := List.length_eq_zero_iff.1 hn
    exact ⟨0, 0, none, rfl, fun h => absurd h (by decide), Nat.le_refl _, ⟨fun h => absurd rfl h, fun j p hj => by cases hj⟩, fun h => absurd rfl h⟩
  · refine ⟨g, cap, _, rfl, fun _ => rfl, hc, ⟨fun _ => (Array.getElem?_eq_some_iff.1 hg).1, fun j p hj => ?_⟩, fun _ => hb⟩
    have hj' : j < ks.length := (List.getElem?_eq_some_iff.1 hj).1
    have h1 : (ks.map strV)[j]? = some (strV p) := by rw [List.getElem?_map, hj]; rfl
    rw [← ht, List.getElem?_take, if_pos (by rw [← hn]; omega), Array.getElem?_toList] at h1
    have hB : Blk w g 9 cur := hg
    rw [hB.cell, h1]
theorem ToldR.put_ {S : Drv} {V : World} {m : Nat} {st : Hd} {ks : List (List UInt8)} {us : List (List UInt8 × Array Value)} (h : ToldR V m S st ks us) {r : Nat} {o o' : Obj} (ho : V.heap[r]? = some o) (hc : o.isCells = false) : ToldR (V.putObj r o') m S st ks us := fun j p hj => by
  obtain ⟨h1, h2, h3⟩ := h j p hj
  refine ⟨h1, h2, h3.keepB fun k t cs hm hb _ => World.putObj_heap_other fun e => ?_⟩
  subst e
  unfold Blk at hb
  rw [hb] at ho
  injection ho with ho
  subst ho
  cases hc
theorem ToldR.touchB {S : Drv} {V V' : World} {m B1 : Nat} {st : Hd} {ks : List (List UInt8)} {us : List (List UInt8 × Array Value)} {F : Nat → Prop} {cs : Array Value} (h : ToldR V m S st ks us) (ht : Touch (fun k => F k ∨ k = B1) V V') (hF : ∀ k, F k → k < m) (hB : Blk V B1 28 cs) : ToldR V' m S st ks us := fun j p hj => by
  obtain ⟨h1, h2, h3⟩ := h j p hj
  refine ⟨h1, h2, h3.keepB fun k t cs hm hb hty => ht.block k hb.lt fun hg => ?_⟩
  rcases hg with hg | rfl
  · have := hF k hg; omega
  · rcases hty with rfl | rfl
    · exact Blk.ne_ hb hB (by decide) rfl
    · exact Blk.ne_ hb hB (by decide) rfl
structure RSt (nb B1 q p : Nat) (want : Hd) (F : Nat → Prop) (S0 : Drv) (X0 : Wnd) (Wb : World) (i t : Nat) (V : World) : Prop where
  num : Blk V nb 3 #[.int .i64 (i : Int)]
  head : ∃ key, Blk V B1 28 (hdCells { want with key := key })
  wd : WD V q p (struckN t X0) S0 F
  base : Touch (fun k => F k ∨ k = B1) Wb V
section
variable {nb B1 q p : Nat} {want : Hd} {F : Nat → Prop} {S0 : Drv} {X0 : Wnd} {Wb : World} {i t : Nat} {V : World}
theorem blk_ne_obj {g r : Nat} {ty : TypeId} {cs : Array Value} {o : Obj} (hb : Blk V g ty cs) (ho : V.heap[r]? = some o) (hc : o.isCells = false) : g ≠ r := fun e => by
  subst e
  unfold Blk at hb
  rw [hb] at ho
  injection ho with ho
  subst ho
  cases hc
theorem RSt.put_ (h : RSt nb B1 q p want F S0 X0 Wb i t V) {r : Nat} {o o' : Obj} (ho : V.heap[r]? = some o) (hc : o.isCells = false) (hF : ¬F r) (hr : Wb.heap.size ≤ r) : RSt nb B1 q p want F S0 X0 Wb i t (V.putObj r o') :=
  ⟨h.num.put_ (blk_ne_obj h.num ho hc) o', by obtain ⟨key, hk⟩ := h.head; exact ⟨key, hk.put_ (blk_ne_obj hk ho hc) o'⟩, h.wd.keep (Touch.one_put r V o') (fun k hk e => hF (by rw [← e]; exact hk)),
    h.base.trans (Touch.put_ (G := grow (fun k => F k ∨ k = B1) Wb V) (Touch.refl _ V) (.inr ⟨hr, (Array.getElem?_eq_some_iff.1 ho).1⟩) o')⟩
theorem RSt.touch {V' : World} {G : Nat → Prop} (h : RSt nb B1 q p want F S0 X0 Wb i t V) (ht : Touch G V V') (hG : ∀ k, G k → F k ∨ k = B1 ∨ Wb.heap.size ≤ k) (hn : ¬G nb) (t' : Nat) (hw : WD V' q p (struckN t' X0) S0 F) (hh : ∃ key, Blk V' B1 28 (hdCells { want with key := key })) : RSt nb B1 q p want F S0 X0 Wb i t' V' :=
  ⟨h.num.touch ht hn, hh, hw, h.base.trans (ht.mono fun k hk hg => by
    rcases hG k hg with h | h | h
    · exact .inl (.inl h)
    · exact .inl (.inr h)
    · exact .inr ⟨h, hk⟩)⟩
end
set_option maxRecDepth 100000 in
set_option maxHeartbeats 20000000 in
theorem walks_yes (w : World) (x : PPlace) (L : PlLay) (hx : PlaceIn w x L) (hok : x.ok = true) (hR : Rd x.bare.wnd x.drv x.files.length) (want : Hd) (hst : want.st.length = 8) (most : Int) (hm : -9223372036854775808 ≤ most ∧ most ≤ 9223372036854775807) :
    Calls Tryz.prog 4 #[.agg (placeCells x L).toArray, hdV want, .int .i64 most] w fun e w' => e = .returned (.bool true) ∧ Below w.heap.size w w' := by
  have HMK : Hid (∀ (V : World) (g : Nat), Below w.heap.size w V → Blk V g 62 (placeCells x.bare { L with pa := none, pc := 0 }).toArray → Calls Tryz.prog 22 #[.slice (some ⟨g, 0, none⟩) 1 1] V fun e w' =>
      ∃ dg dc wg wc mg mc q p F, e = .returned (.tuple #[bothV dg dc wg wc mg mc, .bool true]) ∧ w'.cell? ⟨dg, 0, none⟩ = some (.iface 36 (.pointer (some ⟨q, 0, none⟩))) ∧ dg < w'.heap.size ∧ 1 ≤ dc ∧ WD w' q p x.bare.wnd x.drv F ∧ (∀ k, F k → V.heap.size ≤ k ∧ k < w'.heap.size ∧ k ≠ dg) ∧ Below V.heap.size V w') := Lib.hid fun V g hb hg => by
    have hpi : PlaceIn V x.bare { L with pa := none, pc := 0 } := by
      obtain ⟨⟨vals, hf⟩, h2, h3, h4, h5, h6, h7, h8, h9⟩ := hx
      exact ⟨⟨vals, hf.keep hb⟩, h2, Reads.none_, h4, h5, h6, (by show (0 : Nat) * 16 ≤ _; decide), (fun ad e _ => by cases e), Nat.le_refl _⟩
    refine (make_yes V x.bare _ hpi hok g 0 1 hg.lt (Nat.le_refl _) fun j u hu => ?_).mono ?_
    · rw [Nat.zero_add, hg.cell j]; simpa using hu
    · rintro e w' ⟨dg, dc, wg, wc, mg, mc, q, p, mq, mp, Av, he, ⟨F1, F2, a, b, r, h1, h2, hno, hr, hd, hl⟩, hc, hb'⟩
      exact ⟨dg, dc, wg, wc, mg, mc, q, p, F1, he, r.d, r.dl, hc.d, a, fun k hk => ⟨(h1 k hk).1, (h1 k hk).2, fun e => (hr dg (hd dg (.inl rfl))).1 (by rw [← e]; exact hk)⟩, hb'⟩
  have HR := Lib.hid hR
  have HNF : Hid (x.files.length ≤ 1048576) := Lib.hid hR.nn
  have HST := Lib.hid hst
  have HMO := Lib.hid hm
  have HCW : Hid ((hdCells want).size = 16) := Lib.hid (hdCells_size hst)
  generalize x.bare.wnd = X0 at HMK HR
  generalize x.drv = S0 at HMK HR
  clear hx hok hR hst hm
  obtain ⟨there, room, fs, plan, off, fused, R, C, I⟩ := x
  obtain ⟨fa, fc, pa, plc⟩ := L
  unfold PPlace.bare placeCells bothV at HMK
  unfold placeCells hdV
  simp only [List.length_nil] at HMK HR HNF ⊢
  obtain ⟨nf, hnf⟩ : ∃ nf, nf = fs.length := ⟨_, rfl⟩
  obtain ⟨np, hnp⟩ : ∃ np, np = plan.length := ⟨_, rfl⟩
  rw [← hnf] at HMK HR HNF ⊢
  rw [← hnp]
  clear hnf hnp
  obtain ⟨CW, hCW⟩ : ∃ CW, CW = hdCells want := ⟨_, rfl⟩
  rw [← hCW] at HCW ⊢
  have HCE := Lib.hid hCW
  clear hCW
  have hdd : ∀ k : Nat, (Fence.wide.depth.isSome = true → 1 ≤ k) := fun k h => by cases h
  have hf0 : Fence.wide.fn 9 := trivial
  have hf1 : Fence.wide.fn 22 := trivial
  have hf2 : Fence.wide.fn 23 := trivial
  have hf3 : Fence.wide.fn 24 := trivial
  have hf4 : Fence.wide.fn 13 := trivial
  have hf5 : Fence.wide.fn 25 := trivial
  have hf6 : Fence.wide.fn 26 := trivial
  have hf7 : Fence.wide.fn 20 := trivial
  have hf8 : Fence.wide.fn 21 := trivial
  have hf9 : Fence.wide.fn 27 := trivial
  have hdn : Fence.wide.depth = none := rfl
  refine callsIn_wide.1 (callsIn_of_wp_marks (n := 0) Tryz.func4 rfl trivial ?_ rfl)
  simp only [Tryz.ntmps4, List.size_toArray, List.length_cons, List.length_nil, Nat.reduceAdd, Nat.reduceSub, Array.replicate_succ, Array.replicate_zero, List.push_toArray, List.append_toArray, List.nil_append, List.cons_append]
  obtain ⟨W0, hW0⟩ : ∃ W0, W0 = ((w.alloc (.cells #[.bool there, .int .i64 room, .slice fa nf fc, .slice pa np plc, .bool off, .bool fused, .int .i64 R, .int .i64 C, .int .i64 I] 62)).alloc (.cells CW 28)).alloc (.cells #[.bool false] 4) := ⟨_, rfl⟩
  have HB0 : Hid (Below w.heap.size w W0) := Lib.hid (by rw [hW0]; exact (((Below.refl _ w).alloc (Nat.le_refl _) _).alloc (by simp only [alloc_size]; omega) _).alloc (by simp only [alloc_size]; omega) _)
  have HP0 : Hid (Blk W0 w.heap.size 62 #[.bool there, .int .i64 room, .slice fa nf fc, .slice pa np plc, .bool off, .bool fused, .int .i64 R, .int .i64 C, .int .i64 I]) := Lib.hid (by rw [hW0]; exact ((Blk.new w _ _).alloc _).alloc _)
  have HH0 : Hid (Blk W0 (w.heap.size + 1) 28 CW) := Lib.hid (by rw [hW0]; exact (blk_last _ _ _ _ (by simp only [alloc_size])).alloc _)
  have HO0 : Hid (Blk W0 (w.heap.size + 1 + 1) 4 #[.bool false]) := Lib.hid (by rw [hW0]; exact blk_last _ _ _ _ (by simp only [alloc_size]))
  have hz0 : W0.heap.size = w.heap.size + 3 := by rw [hW0]; simp only [alloc_size]
  have HZ0 := Lib.hid hz0
  have HEQ := Lib.hid hW0
  clear hW0 hz0
  gi_wp2_with fail
  rw [← HEQ.out]
  refine (callsIn_wide.2 (awake_any _)).mono ?_
  rintro e w1 ⟨rfl, hb1⟩
  have HB1 : Hid (Below w.heap.size w w1) := Lib.hid (HB0.out.trans (hb1.mono HB0.out.size))
  have HP1 := Lib.hid (HP0.out.below hb1 HP0.out.lt)
  have HH1 := Lib.hid (HH0.out.below hb1 HH0.out.lt)
  have HO1 := Lib.hid (HO0.out.below hb1 HO0.out.lt)
  have HZ1 : Hid (w.heap.size + 3 ≤ w1.heap.size) := Lib.hid (by have := hb1.size; have := HZ0.out; omega)
  clear hb1
  have z5 := HP1.out.cell 5
  have f5 := HP1.out.frozen 5
  have z3 := HP1.out.cell 3
  have f3 := HP1.out.frozen 3
  have HP2 : Hid (Blk ((w1.setCell ⟨w.heap.size, 5, none⟩ (.bool false)).setCell ⟨w.heap.size, 3, none⟩ (.slice none 0 0)) w.heap.size 62 #[.bool there, .int .i64 room, .slice fa nf fc, .slice none 0 0, .bool off, .bool false, .int .i64 R, .int .i64 C, .int .i64 I]) := Lib.hid (by
    have h9 := (HP1.out.set_ 5 (.bool false)).set_ 3 (.slice none 0 0)
    exact h9)
  have hL : (loadVar 62 ⟨w.heap.size, 0, none⟩).run Tryz.prog ((w1.setCell ⟨w.heap.size, 5, none⟩ (.bool false)).setCell ⟨w.heap.size, 3, none⟩ (.slice none 0 0)) = .ok (.agg #[.bool there, .int .i64 room, .slice fa nf fc, .slice none 0 0, .bool off, .bool false, .int .i64 R, .int .i64 C, .int .i64 I]) _ := run_loadVar_all 62 HP2.out Tryz.underlying62 (by kernel_rfl) rfl
  gi_wp2_with (first
    | (refine wpListIn_load_at rfl 62 _ rfl ⟨w.heap.size, 0, none⟩ rfl _ hL ?_)
    | fail)
  have hs2 : ((w1.setCell ⟨w.heap.size, 5, none⟩ (.bool false)).setCell ⟨w.heap.size, 3, none⟩ (.slice none 0 0)).heap.size = w1.heap.size := by simp
  obtain ⟨W2, hW2⟩ : ∃ W2, W2 = ((w1.setCell ⟨w.heap.size, 5, none⟩ (.bool false)).setCell ⟨w.heap.size, 3, none⟩ (.slice none 0 0)).alloc (.cells #[.bool there, .int .i64 room, .slice fa nf fc, .slice none 0 0, .bool off, .bool false, .int .i64 R, .int .i64 C, .int .i64 I] 62) := ⟨_, rfl⟩
  have hg2 : Blk W2 w1.heap.size 62 #[.bool there, .int .i64 room, .slice fa nf fc, .slice none 0 0, .bool off, .bool false, .int .i64 R, .int .i64 C, .int .i64 I] := by rw [hW2]; exact blk_last _ _ _ _ hs2.symm
  have hz2 : W2.heap.size = w1.heap.size + 1 := by rw [hW2, alloc_size, hs2]
  have hb2 : Below w.heap.size w W2 := by
    rw [hW2]
    exact ((HB1.out.setCell (Nat.le_refl _) _).setCell (Nat.le_refl _) _).alloc (by rw [hs2]; have := HZ1.out; omega) _
  have HP3' : Hid (Blk W2 w.heap.size 62 #[.bool there, .int .i64 room, .slice fa nf fc, .slice none 0 0, .bool off, .bool false, .int .i64 R, .int .i64 C, .int .i64 I]) := Lib.hid (by rw [hW2]; exact HP2.out.alloc _)
  have HH2 : Hid (Blk W2 (w.heap.size + 1) 28 CW) := Lib.hid (by rw [hW2]; exact ((HH1.out.far (p := ⟨w.heap.size, 5, none⟩) (by show w.heap.size + 1 ≠ w.heap.size; omega) _).far (p := ⟨w.heap.size, 3, none⟩) (by show w.heap.size + 1 ≠ w.heap.size; omega) _).alloc _)
  have HO2 : Hid (Blk W2 (w.heap.size + 1 + 1) 4 #[.bool false]) := Lib.hid (by rw [hW2]; exact ((HO1.out.far (p := ⟨w.heap.size, 5, none⟩) (by show w.heap.size + 1 + 1 ≠ w.heap.size; omega) _).far (p := ⟨w.heap.size, 3, none⟩) (by show w.heap.size + 1 + 1 ≠ w.heap.size; omega) _).alloc _)
  rw [← hW2]
  clear hW2 hs2 hL z3 z5 f3 f5
  refine (callsIn_wide.2 (HMK.out W2 w1.heap.size hb2 hg2)).mono ?_
  rintro e w3 ⟨dg, dc, wg, wc, mg, mc, q, p, F, rfl, hdg, hdl, hdc, hwd, hF, hb3⟩
  have HB3 : Hid (Below w.heap.size w w3) := Lib.hid (hb2.trans (hb3.mono hb2.size))
  have HP3 := Lib.hid (HP3'.out.below hb3 HP3'.out.lt)
  have HH3 := Lib.hid (HH2.out.below hb3 HH2.out.lt)
  have HO3 := Lib.hid (HO2.out.below hb3 HO2.out.lt)
  have HWD := Lib.hid hwd
  have HF : Hid (∀ k, F k → w.heap.size + 4 ≤ k ∧ k < w3.heap.size ∧ k ≠ dg) := Lib.hid fun k hk => by have := hF k hk; have := HZ1.out; omega
  clear hb3 hb2 hg2 hz2 hwd hF HMK HP3' HH2 HO2 HP2 HP1 HP0 HH1 HH0 HO0 HO1 HEQ HZ0 HB0 HB1
  have hd0 : (0 : Int) < ((1 : Nat) : Int) := by decide
  gi_wp2_with fail
  obtain ⟨W4, hW4⟩ : ∃ W4, W4 = w3.alloc (.cells #[.slice (some ⟨dg, 0, none⟩) 1 dc, .slice (some ⟨wg, 0, none⟩) 1 wc, .slice (some ⟨mg, 0, none⟩) 1 mc] 67) := ⟨_, rfl⟩
  have hb4 : Below w3.heap.size w3 W4 := by rw [hW4]; exact (Below.refl _ w3).alloc (Nat.le_refl _) _
  rw [← hW4]
  clear hW4 hdg hdl hdc hd0
  obtain ⟨ks, hks⟩ : ∃ ks, ks = keysL (dnames S0.now) 0 := ⟨_, rfl⟩
  have HKS := Lib.hid hks.symm
  have HKN : Hid (ks.length ≤ nf ∧ ks.length ≤ 1048576) := Lib.hid (by have := HR.out.num.1; have := HNF.out; rw [hks]; omega)
  have HKR : Hid (∀ k ∈ ks, 1 ≤ k.length ∧ k.length ≤ 255) := Lib.hid (by rw [hks]; exact fun k hk => keysL_len hk)
  have HKI : Hid (∀ (i : Nat) (a b : List UInt8), ks[i]? = some a → ks[i + 1]? = some b → Op.bytesLess a b = true) := Lib.hid (by rw [hks]; exact fun i a b => keysL_rise)
  clear hks
  have hKY := HR.out.keys_ (q := q) (p := p) (F := F) 0 (by decide) W4 (HWD.out.below hb4) (fun k hk => by have := HF.out k hk; have := hb4.size; omega)
  rw [HKS.out] at hKY
  refine (callsIn_wide.2 hKY).mono ?_
  clear hKY
  rintro e w5 ⟨kv, rfl, hok, hd5, ht5⟩
  obtain ⟨gk, kc, KA, rfl, hKA, hkc, hkr, hbk⟩ := strRow_of hok rfl
  have ht35 : Touch F w3 w5 := (Touch.of_below hb4).trans (ht5.mono fun k _ h => .inl h)
  have HT5 := Lib.hid ht35
  have HKR5 := Lib.hid hkr
  have HBK : Hid (ks ≠ [] → W4.heap.size ≤ gk) := Lib.hid hbk
  have HD5 := Lib.hid hd5
  have HZ5 : Hid (w3.heap.size ≤ W4.heap.size ∧ W4.heap.size ≤ w5.heap.size) := Lib.hid ⟨hb4.size, ht5.size⟩
  have HL3 : Hid (w.heap.size + 3 ≤ w3.heap.size) := Lib.hid (by have := HO3.out.lt; omega)
  have HN0 : Hid (¬F w.heap.size ∧ ¬F (w.heap.size + 1) ∧ ¬F (w.heap.size + 1 + 1)) := Lib.hid ⟨fun h => by have := HF.out _ h; omega, fun h => by have := HF.out _ h; omega, fun h => by have := HF.out _ h; omega⟩
  have HP5 := Lib.hid (HP3.out.touch ht35 HN0.out.1)
  have HH5 := Lib.hid (HH3.out.touch ht35 HN0.out.2.1)
  have z2 := HP5.out.cell 2
  have hL5 := load_head HH5.out HCW.out
  clear hok hd5 ht5 ht35 hb4 hkr hbk
  have hWK := HR.out.walked 1 (by decide) w5 HD5.out (fun k hk => by have := HF.out k hk; have := HZ5.out; omega) want HST.out (-1) (nf : Int)
  rw [HKS.out] at hWK
  unfold hdV at hWK
  rw [← HCE.out] at hWK
  have HWK := Lib.hid hWK
  clear hWK
  gi_wp2_with (first
    | (refine wpListIn_load_at rfl 28 _ rfl ⟨w.heap.size + 1, 0, none⟩ rfl (.agg CW) hL5 ?_)
    | fail)
  refine (callsIn_wide.2 HWK.out).mono ?_
  clear HWK
  rintro e w6 ⟨av, us, rfl, hoa, hto, hle, hns, hor, hd6, ht6⟩
  have hul : us.length = ks.length := by
    rcases hor with h | ⟨h, h2⟩
    · exact h
    · exfalso
      have := HKN.out.1
      rcases h2 with ⟨h3, _⟩ | h3 <;> omega
  clear hor hns hle
  rw [hul] at hoa hd6
  obtain ⟨g, ac, A, rfl, hA, hnc, hrow, hbg⟩ := pairRow_of hoa hul hto.size
  obtain ⟨n, hn⟩ : ∃ n, n = ks.length := ⟨_, rfl⟩
  rw [← hn] at HKN hul hA hnc hd6 hKA hkc ⊢
  have HNK := Lib.hid hn.symm
  have HA := Lib.hid hA
  have HKA := Lib.hid hKA
  have HUL := Lib.hid hul
  have HD6 := Lib.hid hd6
  have HROW := Lib.hid hrow
  have HBG := Lib.hid hbg
  have HTO := Lib.hid hto
  have HT6 := Lib.hid ht6
  have HP6 := Lib.hid (HP5.out.touch ht6 HN0.out.1)
  have HH6 := Lib.hid (HH5.out.touch ht6 HN0.out.2.1)
  have HO6 := Lib.hid ((HO3.out.touch HT5.out HN0.out.2.2).touch ht6 HN0.out.2.2)
  have HZ6 : Hid (w5.heap.size ≤ w6.heap.size) := Lib.hid ht6.size
  have hL6 : ∀ o, (loadVar 28 ⟨w.heap.size + 1, 0, none⟩).run Tryz.prog (w6.alloc o) = .ok (.agg CW) (w6.alloc o) := fun o => load_head (HH6.out.alloc o) HCW.out
  clear hn hA hKA hul hd6 hrow hbg hto ht6 z2 hL5 hoa
  have hAL := fun W => all_any (.iface 36 (.pointer (some ⟨q, 0, none⟩))) want W ⟨_, _, rfl⟩
  unfold hdV at hAL
  rw [← HCE.out] at hAL
  have HAL := Lib.hid hAL
  clear hAL
  gi_wp2_with (first
    | (refine wpListIn_load_at rfl 28 _ rfl ⟨w.heap.size + 1, 0, none⟩ rfl (.agg CW) (hL6 _) ?_)
    | (gi_at_call 13; refine (callsIn_wide.2 (num_any _ _)).mono ?_; rintro e w' ⟨rfl, rfl⟩)
    | (gi_at_call 25; refine (callsIn_wide.2 (HAL.out _)).mono ?_; rintro e w' ⟨rfl, rfl⟩)
    | fail)
  obtain ⟨Wb, hWb⟩ : ∃ Wb, Wb = ((w6.alloc (.cells #[.slice A n ac] 76)).alloc (.cells #[.iface 36 (.pointer (some ⟨q, 0, none⟩))] 72)).alloc (.cells CW 28) := ⟨_, rfl⟩
  have hszb : Wb.heap.size = w6.heap.size + 3 := by rw [hWb]; simp only [alloc_size]
  have hbb : Below w6.heap.size w6 Wb := by rw [hWb]; exact (((Below.refl _ w6).alloc (Nat.le_refl _) _).alloc (by simp only [alloc_size]; omega) _).alloc (by simp only [alloc_size]; omega) _
  have HOB : Hid (Blk Wb w6.heap.size 76 #[.slice A n ac]) := Lib.hid (by rw [hWb]; exact ((Blk.new w6 _ _).alloc _).alloc _)
  have HDB : Hid (Blk Wb (w6.heap.size + 1) 72 #[.iface 36 (.pointer (some ⟨q, 0, none⟩))]) := Lib.hid (by rw [hWb]; exact (blk_last _ _ _ _ (by simp only [alloc_size])).alloc _)
  have HHB : Hid (Blk Wb (w6.heap.size + 1 + 1) 28 CW) := Lib.hid (by rw [hWb]; exact blk_last _ _ _ _ (by simp only [alloc_size]))
  rw [← hWb]
  clear hWb hL6
  obtain ⟨O, hO⟩ : ∃ O, O = w6.heap.size := ⟨_, rfl⟩
  obtain ⟨B0, hB0⟩ : ∃ B0, B0 = w6.heap.size + 1 := ⟨_, rfl⟩
  obtain ⟨B1, hB1⟩ : ∃ B1, B1 = w6.heap.size + 1 + 1 := ⟨_, rfl⟩
  rw [← hB1] at HHB ⊢
  rw [← hB0] at HDB ⊢
  rw [← hO] at HOB ⊢
  have HAD := Lib.hid (And.intro hO (And.intro hB0 (And.intro hB1 hszb)))
  have HF3 : Hid (∀ k, F k → k < w5.heap.size) := Lib.hid fun k hk => by have := HF.out k hk; have := HZ5.out; omega
  have HU : Hid (∀ V, Touch (fun k => F k ∨ k = B1) Wb V → Blk V w.heap.size 62 #[.bool there, .int .i64 room, .slice fa nf fc, .slice none 0 0, .bool off, .bool false, .int .i64 R, .int .i64 C, .int .i64 I] ∧
      Blk V (w.heap.size + 1) 28 CW ∧ Blk V (w.heap.size + 1 + 1) 4 #[.bool false] ∧ Blk V O 76 #[.slice A n ac] ∧ PairRow V g us ∧ ToldR V w5.heap.size S0 want ks us ∧ StrRow V gk ks ∧ Blk V B0 72 #[.iface 36 (.pointer (some ⟨q, 0, none⟩))]) := Lib.hid fun V hV => by
    have h1 := HP6.out.below hbb HP6.out.lt
    have h2 := HH6.out.below hbb HH6.out.lt
    have h3 := HO6.out.below hbb HO6.out.lt
    have h5 := HROW.out.keep (fun he => hbb.block g (HROW.out.1 he)) hbb.size
    have h6 := HTO.out.touch (Touch.of_below (F := fun _ => False) hbb) fun _ h => h.elim
    have h7 := (HKR5.out.touch HT6.out (fun he h => by have := HBK.out he; have := HF.out _ h; have := HZ5.out; omega)).touch (Touch.of_below (F := fun _ => False) hbb) fun _ h => h
    have hl := HP6.out.lt
    have hl2 := HH6.out.lt
    have hl3 := HO6.out.lt
    have hz := HZ6.out
    have hz5 := HZ5.out
    refine ⟨h1.touch hV (fun h => ?_), h2.touch hV (fun h => ?_), h3.touch hV (fun h => ?_), HOB.out.touch hV (fun h => ?_), h5.touch hV (fun he h => ?_), h6.touchB hV HF3.out HHB.out, h7.touch hV (fun he h => ?_), HDB.out.touch hV (fun h => ?_)⟩
    · rcases h with h | h
      · exact HN0.out.1 h
      · omega
    · rcases h with h | h
      · exact HN0.out.2.1 h
      · omega
    · rcases h with h | h
      · exact HN0.out.2.2 h
      · omega
    · rcases h with h | h
      · have := HF3.out _ h; omega
      · omega
    · rcases h with h | h
      · have := HF3.out _ h; have := HBG.out he; omega
      · have := HROW.out.1 he; omega
    · rcases h with h | h
      · have := HF.out _ h; have := HBK.out he; omega
      · have := HKR5.out.1 he; omega
    · rcases h with h | h
      · have := HF3.out _ h; omega
      · omega
  have HST0 : Hid (∃ t, t ≤ 3145734 ∧ WD Wb q p (struckN t X0) S0 F ∧ ∃ key, Blk Wb B1 28 (hdCells { want with key := key })) := Lib.hid ⟨1 + 1 + n, by have := HKN.out; omega, HD6.out.below hbb, want.key, by have h9 := HHB.out; rw [HCE.out] at h9; exact h9⟩
  have HBW : Hid (Below w.heap.size w Wb) := Lib.hid (((HB3.out.trans (HT5.out.below (by have := HL3.out; omega) fun k hk => by have := HF.out k hk; omega)).trans (HT6.out.below (by have := HL3.out; have := HZ5.out; omega) fun k hk => by have := HF.out k hk; omega)).trans (hbb.mono (by have := HL3.out; have := HZ5.out; have := HZ6.out; omega)))
  clear hO hB0 hB1 hszb hbb HP6 HH6 HO6 HROW HTO HKR5 HOB HDB HT6 HT5 HD6 HD5 HP5 HH5 HP3 HH3 HO3 HAL HWD HHB HB3
  refine wpIn_loop_rounds 3 ?_
  rw [roundsIn_succ]
  gi_wp2_with fail
  have HFL : Hid (∀ k, w6.heap.size ≤ k → ¬F k) := Lib.hid fun k h hk => by have := HF3.out k hk; have := HZ6.out; omega
  have HBV0 : Hid (Touch (fun k => F k ∨ k = B1) Wb Wb) := Lib.hid (Touch.refl _ Wb)
  have HU0 := Lib.hid HU.out
  have HAD0 : Hid (O = w6.heap.size ∧ B0 = w6.heap.size + 1 ∧ B1 = w6.heap.size + 1 + 1 ∧ w6.heap.size + 3 ≤ Wb.heap.size) := Lib.hid ⟨HAD.out.1, HAD.out.2.1, HAD.out.2.2.1, Nat.le_of_eq HAD.out.2.2.2.symm⟩
  obtain ⟨t, htb, hwdt, hhdt⟩ := HST0.out
  have HTB : Hid (t ≤ 3145734 + 0 * 1048577) := Lib.hid htb
  obtain ⟨Wr, hWr⟩ : ∃ Wr, Wr = Wb.alloc (.cells #[.int .i64 0] 3) := ⟨_, rfl⟩
  have hr0 : Wr.heap.size = Wb.heap.size + 1 := by rw [hWr, alloc_size]
  have HR0 : Hid (RSt Wb.heap.size B1 q p want F S0 X0 Wb 0 t Wr) := Lib.hid ⟨by rw [hWr]; exact Blk.new _ _ _, by obtain ⟨key, hk⟩ := hhdt; exact ⟨key, by rw [hWr]; exact hk.alloc _⟩, by rw [hWr]; exact hwdt.below ((Below.refl _ _).alloc (Nat.le_refl _) _), by rw [hWr]; exact HBV0.out.trans (Touch.of_below ((Below.refl _ Wb).alloc (Nat.le_refl _) _))⟩
  rw [← hWr]
  obtain ⟨nb, hnb⟩ : ∃ nb, nb = Wb.heap.size := ⟨_, rfl⟩
  rw [← hnb] at HR0 hr0 ⊢
  have HNB : Hid (nb + 1 = Wr.heap.size ∧ Wb.heap.size ≤ nb) := Lib.hid ⟨hr0.symm, by rw [hnb]; exact HBV0.out.size⟩
  clear hWr hr0 hnb hwdt hhdt htb
  let G : Nat → Prop := fun k => k = nb ∨ k = Wr.heap.size ∨ k = Wr.heap.size + 1
  let Pre : WR → World → Prop := fun x V => ks[x.i]? = some x.key ∧ x.cs.size = 19 ∧ (∀ u ∈ x.cs.toList, u.oneCell' = true) ∧ Wr.heap.size + 2 ≤ x.m ∧ x.m ≤ V.heap.size ∧ RSt nb B1 q p want F S0 X0 Wb x.i (t + 1 + (x.i + 1)) V ∧ LookAt V x.m (S0.read (objN x.key)).1 (S0.read (objN x.key)).2 { want with key := x.key } (.agg x.cs)
  have HPP : Hid (∀ x (V : World) (r : Nat) (o o' : Obj), Wr.heap.size ≤ r → V.heap[r]? = some o → o.isCells = false → Pre x V → Pre x (V.putObj r o')) := Lib.hid fun x V r o o' h1 h3 h4 h5 => by
    obtain ⟨p1, p2, p3, p4, p5, p6, p7⟩ := h5
    have := HNB.out
    have := HAD0.out
    refine ⟨p1, p2, p3, p4, by rw [World.putObj_size]; exact p5, p6.put_ h3 h4 (HFL.out r (by omega)) (by omega), p7.keepB fun k t cs _ hb _ => World.putObj_heap_other (blk_ne_obj hb h3 h4)⟩
  apply rangeFunc_any2 (Q := _) (w := Wr) rfl (hdd _) (gf := 77) (lb := #[.pointer (some ⟨B0, 0, none⟩), .pointer (some ⟨B1, 0, none⟩)]) rfl trivial (enters_of Tryz.func77 (by kernel_rfl) rfl) (fun x : WR => #[strV x.key, .agg x.cs]) (fun _ => rfl)
    (fun x V => V = x.W1 ∧ Pre x V)
    (fun x V => Touch (fun k => G k ∨ x.m ≤ k) x.W1 V ∧ RSt nb B1 q p want F S0 X0 Wb (x.i + 1) (t + 1 + (x.i + 1)) V)
    (fun _ _ _ => False) (fun V => Below Wr.heap.size Wr V ∧ Wr.heap.size + 2 ≤ V.heap.size)
    (fun V => RSt nb B1 q p want F S0 X0 Wb n (t + 1 + n) V) (fun _ _ => False)
    ?hseq ?hJ ?hIx ?hE ?hEx ?h0 _ (fun x V => Blk V x.W1.heap.size 57 x.cs ∧ Pre x V ∧ Touch (fun k => G k ∨ x.m ≤ k) x.W1 V) ?hM ?hassign ?hbody ?hdone ?hstop
  case hseq =>
    intro l K Kx hK hKx hround V hV hI0 hKV
    obtain ⟨hI1, hI2⟩ := hI0
    have had := HAD0.out
    have hnb := HNB.out
    have hFV : ∀ k, F k → k < V.heap.size := fun k hk => by have := HF3.out k hk; have := HZ6.out; omega
    have hRV : RSt nb B1 q p want F S0 X0 Wb 0 t V := HR0.out.touch (Touch.of_below (F := fun _ => False) hI1) (fun _ h => h.elim) (fun h => h) t (HR0.out.wd.below hI1) (by obtain ⟨key, hk⟩ := HR0.out.head; exact ⟨key, hk.below hI1 hk.lt⟩)
    have h := all1_in (0 - 1) l B0 B1 q p (struckN t X0) S0 F V want HST.out t HR.out.now HR.out.names (Nat.le_trans HR.out.dlen (by decide)) HR.out.read hRV.wd hFV (by have h9 := struckN_okn HR.out.okn t; rwa [Nat.zero_add] at h9) (by have := HTB.out; have := HR.out.dlen; omega) HR.out.small
      (struckN (t + 1) X0) (dnames S0.now) 0 (calm_reads HR.out.calm t _) (HU0.out V hRV.base).2.2.2.2.2.2.2 hRV.head (HFL.out _ (by omega)) (HFL.out _ (by omega)) G (fun k hk => by rcases hk with h | h | h <;> omega) (fun k hk h => HFL.out k (by rcases h with h | h | h <;> omega) hk) (fun h => by rcases h with h | h | h <;> omega) (fun h => by rcases h with h | h | h <;> omega)
      (fun m i V2 => (RSt nb B1 q p want F S0 X0 Wb i (t + 1 + i) V2 ∧ Wr.heap.size + 2 ≤ m) ∧ K V2) (fun _ => False) ?gJ ?gJx ?g0 ?gY
    case gJ =>
      rintro m i V1 r o o' h1 h2 h3 ⟨⟨r1, r2⟩, hk⟩
      exact ⟨⟨r1.put_ h2 h3 (HFL.out r (by omega)) (by omega), r2⟩, hK V1 _ (fun k k1 k2 => World.putObj_heap_other (by omega)) hk⟩
    case gJx => exact fun _ _ _ _ _ _ _ h => h
    case g0 =>
      intro V1 hd1 ht1
      exact ⟨⟨hRV.touch ht1 (fun k hk => .inl hk) (HFL.out _ (by omega)) (t + 1 + 0) hd1 (by obtain ⟨key, hk⟩ := hRV.head; exact ⟨key, hk.touch ht1 (HFL.out _ (by omega))⟩), Nat.le_trans hI2 ht1.size⟩, hK V V1 (Lies.touch ht1 (HFL.out _ (by omega)) (HFL.out _ (by omega)) hI2) hKV⟩
    case gY =>
      rintro m i key v V1 V2 Z ds e hkey hm hle ⟨⟨hst, hmB⟩, hk1⟩ ht12 hrd hlk hwd hb1
      obtain ⟨cs, rfl, hcs, hone⟩ := look_agg hlk
      rw [struckN_add, calm_reads HR.out.calm] at hrd
      injection hrd with _ hrd
      injection hrd with hr1 hr2
      subst hr1 hr2
      rw [HKS.out] at hkey
      rw [struckN_add] at hwd
      have hF2 : ∀ k, F k ∨ k = B1 → k < Wb.heap.size := fun k h => by
        rcases h with h | h
        · have := HF3.out k h; have := HZ6.out; omega
        · omega
      have hpre : Pre ⟨m, i, key, cs, V2⟩ V2 := ⟨hkey, hcs, hone, hmB, Nat.le_trans hle ht12.size, hst.touch ht12 (fun k hk => by
        rcases hk with h | h
        · exact .inl h
        · exact .inr (.inl h)) (fun h => by have := hF2 _ h; omega) _ hwd ⟨key, hb1⟩, hlk.base hle⟩
      have hk2 : K V2 := hK V1 V2 (Lies.touch ht12 (fun h => by have := hF2 _ h; omega) (fun h => by have := hF2 _ h; omega) (by omega)) hk1
      refine (YieldAt.any rfl _ (hround ⟨m, i, key, cs, V2⟩ V2 ⟨rfl, hpre⟩ hk2)).mono ?_
      rintro e V3 (⟨rfl, ⟨ht3, hst3⟩, hk3⟩ | ⟨rfl, c, hx, hkx⟩)
      · exact .inl ⟨rfl, ⟨⟨hst3, hmB⟩, hk3⟩, ht3⟩
      · exact hx.elim
    refine CallsIn.mono h ?_
    rintro e V2 ⟨hv, (⟨m, ⟨q2, _⟩, hk⟩ | hx)⟩
    · rw [HKS.out, HNK.out] at q2
      exact ⟨hv, .inl ⟨q2, hk⟩⟩
    · exact hx.elim
  case hJ => exact fun x V r o o' h1 h2 h3 h4 h5 => ⟨h5.1.put_ (.inl (.inr (by omega))) o', h5.2.put_ h3 h4 (HFL.out r (by have := HNB.out; have := HAD0.out; omega)) (by have := HNB.out; omega)⟩
  case hIx => exact fun _ _ _ _ _ _ _ _ _ _ h => h
  case hE => exact fun V r o o' h1 h2 h3 h4 h5 => h5.put_ h3 h4 (HFL.out r (by have := HNB.out; have := HAD0.out; omega)) (by have := HNB.out; omega)
  case hEx => exact fun _ _ _ _ _ _ _ _ _ h => h
  case h0 => exact fun o1 o2 => ⟨((Below.refl _ Wr).alloc (Nat.le_refl _) _).alloc (by rw [alloc_size]; omega) _, by rw [alloc_size, alloc_size]; exact Nat.le_refl _⟩
  case hM =>
    rintro x V r o o' h1 h2 h3 h4 ⟨q1, q4, q5⟩
    exact ⟨q1.put_ (blk_ne_obj q1 h3 h4) o', HPP.out x V r o o' h1 h3 h4 q4, q5.put_ (.inl (.inr (by omega))) o'⟩
  case hassign =>
    rintro l x V K ⟨rfl, hpre⟩ hV hK
    have HP := Lib.hid hpre
    obtain ⟨W2, hr2, hk2, ht2, hs2⟩ := store_seen (w := x.W1.alloc (.cells (seen0 0 0) 57)) (R := x.W1.heap.size) (CK := x.cs) (Blk.new _ _ _) rfl hpre.2.1 hpre.2.2.1
    have HB2 : Hid (Below x.W1.heap.size x.W1 W2) := Lib.hid (((Below.refl _ x.W1).alloc (Nat.le_refl _) _).trans (ht2.below (by rw [alloc_size]; exact Nat.le_succ _) (fun k hk => Nat.le_of_eq hk.symm)))
    have HK2 := Lib.hid hk2
    clear hpre hk2 ht2 hs2
    gi_wp2_with (refine wpListIn_store_at rfl 57 _ _ rfl ⟨x.W1.heap.size, 0, none⟩ rfl (.agg x.cs) rfl W2 hr2 ?_)
    refine hK _ (Lies.below HB2.out (by have := HP.out.2.2.2.1; have := HP.out.2.2.2.2.1; omega)) ⟨HK2.out, ?_, Touch.of_below HB2.out⟩
    obtain ⟨p1, p2, p3, p4, p5, p6, p7⟩ := HP.out
    exact ⟨p1, p2, p3, p4, Nat.le_trans p5 HB2.out.size, p6.touch (Touch.of_below (F := fun _ => False) HB2.out) (fun _ h => h.elim) (fun h => h) _ (p6.wd.below HB2.out) (by obtain ⟨key, hk⟩ := p6.head; exact ⟨key, hk.below HB2.out hk.lt⟩), p7.keepB fun k t cs _ hb _ => HB2.out.block k hb.lt⟩
  case hbody =>
    rintro l x V ⟨hbk, ⟨p1, p2, p3, p4, p5, p6, p7⟩, ht⟩ hV
    have had := HAD0.out
    have hnb := HNB.out
    have HT := Lib.hid ht
    have hil : x.i < n := by have := (List.getElem?_eq_some_iff.1 p1).1; rw [HNK.out] at this; exact this
    have hul : x.i < us.length := by have := HUL.out; omega
    obtain rfl := HA.out (by omega)
    obtain ⟨⟨uk, ucs⟩, hu⟩ : ∃ u, us[x.i]? = some u := ⟨us[x.i], List.getElem?_eq_getElem hul⟩
    have hus := HU0.out V p6.base
    obtain ⟨e1, hz2, hl2⟩ := hus.2.2.2.2.2.1 x.i _ hu
    have e2 : uk = x.key := by
      have e3 : ks[x.i]? = some uk := e1
      rw [p1] at e3
      injection e3 with e3
      exact e3.symm
    subst e2
    have hsv : SameV V V.heap.size x.cs ucs := sameV_of p7 hl2
    obtain ⟨tt, htt⟩ : ∃ tt : ByteArray, strV x.key = .string tt := ⟨_, rfl⟩
    obtain ⟨SS, hSS⟩ : ∃ SS : World → Prop, SS = (fun U => U.cell? ⟨nb, 0, none⟩ = some (.int .i64 (x.i : Int)) ∧ U.cell? ⟨O, 0, none⟩ = some (.slice (some ⟨g, 0, none⟩) n ac) ∧ U.cell? ⟨g, x.i * 20, none⟩ = some (.string tt) ∧ (loadVar 57 ⟨x.W1.heap.size, 0, none⟩).run Tryz.prog U = .ok (.agg x.cs) U ∧ (loadVar 57 ⟨g, x.i * 20 + 1, none⟩).run Tryz.prog U = .ok (.agg ucs) U) := ⟨_, rfl⟩
    have HSA : Hid (∀ U, Below V.heap.size V U → SS U) := Lib.hid fun U hU => by
      rw [hSS]
      have q1 := hus.2.2.2.2.1.keep (fun he => hU.block g (hus.2.2.2.2.1.1 he)) hU.size
      exact ⟨(p6.num.below hU p6.num.lt).cell 0, (hus.2.2.2.1.below hU hus.2.2.2.1.lt).cell 0, (q1.key hu).trans (congrArg some htt), load_seen (hbk.below hU hbk.lt) p2, q1.seen hu hz2⟩
    have HSQ := Lib.hid hSS
    have HSV := Lib.hid (fun U (hU : Below V.heap.size V U) => sameV_yes ((hsv.below hU).upto hU.size))
    have HSS := Lib.hid (HSA.out V.drew (below_drew1 (Below.refl _ V)))
    have HP6 := Lib.hid p6
    have HPM := Lib.hid (And.intro p4 p5)
    have HWI : Hid (wrap64 ((x.i : Int) + 1) = (x.i : Int) + 1) := Lib.hid (IntWalk.wrap64_in _ (by have := HKN.out; omega))
    have hil' : (x.i : Int) < (n : Int) := by omega
    have hge : ¬ (n : Int) ≤ (x.i : Int) := by omega
    have hge2 : ¬ n ≤ x.i := by omega
    have hge3 : decide ((n : Int) ≤ (x.i : Int)) = false := decide_eq_false hge
    have hge4 : decide ((x.i : Int) ≥ (n : Int)) = false := decide_eq_false hge
    have hi0 : (0 : Int) ≤ (x.i : Int) := Int.natCast_nonneg _
    rw [htt]
    clear hSS hsv hus hz2 hl2 hu e1 p1 p2 p3 p4 p5 p6 p7 ht hbk htt hul had hnb
    gi_wp2_with fail
    refine wpIn_region_held SS (by kernel_rfl) ?_
    refine hrT (v := ?_) 0 rfl HSS.out ?_ ?_
    rotate_left
    · (intro U hU; rw [HSQ.out] at hU; obtain ⟨hU0, hU1, hU2, _, _⟩ := hU; go_simp; try with_reducible rfl)
    try simp only [Act.put, List.setIfInBounds_toArray, List.set_cons_zero, List.set_cons_succ]
    refine hrT (v := ?_) 1 rfl HSS.out ?_ ?_
    rotate_left
    · (intro U hU; rw [HSQ.out] at hU; obtain ⟨hU0, hU1, hU2, _, _⟩ := hU; go_simp; try with_reducible rfl)
    try simp only [Act.put, List.setIfInBounds_toArray, List.set_cons_zero, List.set_cons_succ]
    refine hrT (v := ?_) 2 rfl HSS.out ?_ ?_
    rotate_left
    · (intro U hU; clear hU; go_simp; try with_reducible rfl)
    try simp only [Act.put, List.setIfInBounds_toArray, List.set_cons_zero, List.set_cons_succ]
    refine hrT (v := ?_) 3 rfl HSS.out ?_ ?_
    rotate_left
    · (intro U hU; clear hU; go_simp; try with_reducible rfl)
    try simp only [Act.put, List.setIfInBounds_toArray, List.set_cons_zero, List.set_cons_succ]
    refine hrT (v := ?_) 4 rfl HSS.out ?_ ?_
    rotate_left
    · (intro U hU; clear hU; go_simp; try with_reducible rfl)
    try simp only [Act.put, List.setIfInBounds_toArray, List.set_cons_zero, List.set_cons_succ]
    refine hrT (v := ?_) 5 rfl HSS.out ?_ ?_
    rotate_left
    · (intro U hU; clear hU; go_simp; try with_reducible rfl)
    try simp only [Act.put, List.setIfInBounds_toArray, List.set_cons_zero, List.set_cons_succ]
    refine hrT (v := ?_) 6 rfl HSS.out ?_ ?_
    rotate_left
    · (intro U hU; rw [HSQ.out] at hU; obtain ⟨hU0, hU1, hU2, _, _⟩ := hU; go_simp; try with_reducible rfl)
    try simp only [Act.put, List.setIfInBounds_toArray, List.set_cons_zero, List.set_cons_succ]
    refine hrT (v := ?_) 7 rfl HSS.out ?_ ?_
    rotate_left
    · (intro U hU; rw [HSQ.out] at hU; obtain ⟨hU0, hU1, hU2, _, _⟩ := hU; go_simp; try with_reducible rfl)
    try simp only [Act.put, List.setIfInBounds_toArray, List.set_cons_zero, List.set_cons_succ]
    refine hrT (v := ?_) 8 rfl HSS.out ?_ ?_
    rotate_left
    · (intro U hU; clear hU; go_simp; try with_reducible rfl)
    try simp only [Act.put, List.setIfInBounds_toArray, List.set_cons_zero, List.set_cons_succ]
    refine hrT (v := ?_) 9 rfl HSS.out ?_ ?_
    rotate_left
    · (intro U hU; clear hU; go_simp; try with_reducible rfl)
    try simp only [Act.put, List.setIfInBounds_toArray, List.set_cons_zero, List.set_cons_succ]
    refine hrT (v := ?_) 10 rfl HSS.out ?_ ?_
    rotate_left
    · (intro U hU; rw [HSQ.out] at hU; obtain ⟨hU0, hU1, hU2, _, _⟩ := hU; go_simp; try with_reducible rfl)
    try simp only [Act.put, List.setIfInBounds_toArray, List.set_cons_zero, List.set_cons_succ]
    refine hrT (v := ?_) 11 rfl HSS.out ?_ ?_
    rotate_left
    · (intro U hU; clear hU; go_simp; try with_reducible rfl)
    try simp only [Act.put, List.setIfInBounds_toArray, List.set_cons_zero, List.set_cons_succ]
    refine hrT (v := ?_) 12 rfl HSS.out ?_ ?_
    rotate_left
    · (intro U hU; clear hU; go_simp; try with_reducible rfl)
    try simp only [Act.put, List.setIfInBounds_toArray, List.set_cons_zero, List.set_cons_succ]
    refine hrT (v := ?_) 13 rfl HSS.out ?_ ?_
    rotate_left
    · (intro U hU; clear hU; go_simp; try with_reducible rfl)
    try simp only [Act.put, List.setIfInBounds_toArray, List.set_cons_zero, List.set_cons_succ]
    refine hrT (v := (.agg x.cs)) 14 rfl HSS.out (fun U hU => load_yields 57 (.tmp 18) rfl ⟨x.W1.heap.size, 0, none⟩ rfl (.agg x.cs) (by rw [HSQ.out] at hU; exact hU.2.2.2.1)) ?_
    try simp only [Act.put, List.setIfInBounds_toArray, List.set_cons_zero, List.set_cons_succ]
    refine hrT (v := ?_) 15 rfl HSS.out ?_ ?_
    rotate_left
    · (intro U hU; rw [HSQ.out] at hU; obtain ⟨hU0, hU1, hU2, _, _⟩ := hU; go_simp; try with_reducible rfl)
    try simp only [Act.put, List.setIfInBounds_toArray, List.set_cons_zero, List.set_cons_succ]
    refine hrT (v := ?_) 16 rfl HSS.out ?_ ?_
    rotate_left
    · (intro U hU; rw [HSQ.out] at hU; obtain ⟨hU0, hU1, hU2, _, _⟩ := hU; go_simp; try with_reducible rfl)
    try simp only [Act.put, List.setIfInBounds_toArray, List.set_cons_zero, List.set_cons_succ]
    refine hrT (v := ?_) 17 rfl HSS.out ?_ ?_
    rotate_left
    · (intro U hU; clear hU; go_simp; try with_reducible rfl)
    try simp only [Act.put, List.setIfInBounds_toArray, List.set_cons_zero, List.set_cons_succ]
    refine hrT (v := ?_) 18 rfl HSS.out ?_ ?_
    rotate_left
    · (intro U hU; clear hU; go_simp; try with_reducible rfl)
    try simp only [Act.put, List.setIfInBounds_toArray, List.set_cons_zero, List.set_cons_succ]
    refine hrT (v := (.agg ucs)) 19 rfl HSS.out (fun U hU => load_yields 57 (.tmp 112) rfl ⟨g, x.i * 20 + 1, none⟩ rfl (.agg ucs) (by rw [HSQ.out] at hU; exact hU.2.2.2.2)) ?_
    try simp only [Act.put, List.setIfInBounds_toArray, List.set_cons_zero, List.set_cons_succ]
    refine wpAnyHR_one (i := 20) (by kernel_rfl) rfl ?_
    intro K20 hK20
    go_simp
    refine (CallsIn.inRound l (callsIn_wide.2 (HSV.out _ (below_drew1 (Below.refl _ V))))).mono ?_
    rintro e w2 ⟨rfl, hb2⟩
    have hb2 : Below V.heap.size V w2 := (below_drew1 (Below.refl _ V)).trans hb2
    have HB2 := Lib.hid hb2
    have HSS := Lib.hid (HSA.out w2 hb2)
    clear hb2
    refine hK20 _ _ ⟨HSS.out, ?_⟩
    clear hK20 K20; try simp only [Act.put, List.setIfInBounds_toArray, List.set_cons_zero, List.set_cons_succ]
    refine hrT (v := ?_) 21 rfl HSS.out ?_ ?_
    rotate_left
    · (intro U hU; clear hU; go_simp; try with_reducible rfl)
    try simp only [Act.put, List.setIfInBounds_toArray, List.set_cons_zero, List.set_cons_succ]
    refine hrT (v := ?_) 22 rfl HSS.out ?_ ?_
    rotate_left
    · (intro U hU; clear hU; go_simp; try with_reducible rfl)
    try simp only [Act.put, List.setIfInBounds_toArray, List.set_cons_zero, List.set_cons_succ]
    refine wpAnyHR_done (by kernel_rfl) ?_ _
    have hb2 := HB2.out
    have p6 := HP6.out.touch (Touch.of_below (F := fun _ => False) hb2) (fun _ h => h.elim) (fun h => h) _ (HP6.out.wd.below hb2) (by obtain ⟨key, hk⟩ := HP6.out.head; exact ⟨key, hk.below hb2 hk.lt⟩)
    have c0 := p6.num.cell 0
    have f0 := p6.num.frozen 0
    have HQ6 := Lib.hid p6
    clear hb2 p6
    gi_wp2_with fail
    rw [HWI.out]
    have had := HAD0.out
    have hnb := HNB.out
    have hpm := HPM.out
    have hlt : nb < w2.heap.size := HQ6.out.num.lt
    have htn : Touch (fun k => k = nb) w2 (w2.setCell ⟨nb, 0, none⟩ (.int .i64 ((x.i : Int) + 1))) := Touch.setCell (F := fun k => k = nb) w2 ⟨nb, 0, none⟩ _ rfl
    have h2n : Touch (fun k => k = nb) V (w2.setCell ⟨nb, 0, none⟩ (.int .i64 ((x.i : Int) + 1))) := (Touch.of_below (F := fun k => k = nb) HB2.out).trans (htn.mono fun k _ h => .inl h)
    refine ⟨fun k k1 k2 => (Below.heap_setCell w2 ⟨nb, 0, none⟩ _ k (by show k ≠ nb; omega)).trans (HB2.out.block k (by omega)), HT.out.trans (h2n.mono fun k _ h => .inl (.inl (.inl h))), ?_⟩
    · refine ⟨?_, ?_, HQ6.out.wd.keep htn (fun k hk e => HFL.out nb (by omega) (by rw [← e]; exact hk)), HQ6.out.base.trans (htn.mono fun k _ h => .inr (by omega))⟩
      · have h9 := HQ6.out.num.set_ 0 (.int .i64 ((x.i : Int) + 1))
        rw [show (#[(.int .i64 (x.i : Int) : Value)]).setIfInBounds 0 (.int .i64 ((x.i : Int) + 1)) = #[(.int .i64 ((x.i + 1 : Nat) : Int))] from by rw [Int.natCast_add]; rfl] at h9
        exact h9
      · obtain ⟨key, hk⟩ := HQ6.out.head
        exact ⟨key, hk.touch htn (by omega)⟩
  case hstop => exact fun _ _ h _ => h.elim
  case hdone =>
  intro U1 hst1 hdf1
  have c0 := hst1.num.cell 0
  have cO := (HU0.out U1 hst1.base).2.2.2.1.cell 0
  have HST1 : Hid (∃ t, t ≤ 3145734 + 1 * 1048577 ∧ WD U1 q p (struckN t X0) S0 F ∧ ∃ key, Blk U1 B1 28 (hdCells { want with key := key })) := Lib.hid ⟨t + 1 + n, by have := HTB.out; have := HKN.out; omega, hst1.wd, hst1.head⟩
  have HBV1 : Hid (Touch (fun k => F k ∨ k = B1) U1 U1) := Lib.hid (Touch.refl _ U1)
  have HU1 := Lib.hid fun V (hV : Touch (fun k => F k ∨ k = B1) U1 V) => HU0.out V (hst1.base.trans (hV.mono fun k _ h => .inl h))
  have HAD1 : Hid (O = w6.heap.size ∧ B0 = w6.heap.size + 1 ∧ B1 = w6.heap.size + 1 + 1 ∧ w6.heap.size + 3 ≤ U1.heap.size) := Lib.hid ⟨HAD0.out.1, HAD0.out.2.1, HAD0.out.2.2.1, by have := HAD0.out.2.2.2; have := hst1.base.size; omega⟩
  have HBW1 : Hid (Below w.heap.size w U1) := Lib.hid (HBW.out.trans (hst1.base.below (by have := HBW.out.size; omega) fun k hk => by
    rcases hk with h | h
    · have := HF.out _ h; omega
    · have := HAD0.out; have := HZ6.out; have := HZ5.out; have := HL3.out; omega))
  obtain ⟨r1, hr1⟩ : ∃ r, r = Wr.heap.size := ⟨_, rfl⟩
  rw [← hr1] at hdf1 ⊢
  have HRL1 : Hid (w.heap.size ≤ r1 ∧ r1 < U1.heap.size) := Lib.hid ⟨by have := HNB.out; have := HBW.out.size; omega, (Array.getElem?_eq_some_iff.1 hdf1).1⟩
  have HDF1 : Hid (∀ V, Touch (fun k => F k ∨ k = B1) U1 V → V.heap[r1]? = some (.deferred (some []))) := Lib.hid fun V hV => by
    have hl : r1 < U1.heap.size := (Array.getElem?_eq_some_iff.1 hdf1).1
    have had := HAD0.out
    have hnb := HNB.out
    rw [hV.block r1 hl (fun h => by
      rcases h with h | h
      · exact HFL.out r1 (by omega) h
      · omega)]
    exact hdf1
  clear hst1 hdf1 hr1 HPP HR0 HTB HST0 HBV0
  clear_value G Pre
  gi_wp2_with fail
  rw [roundsIn_succ]
  gi_wp2_with fail
  obtain ⟨t, htb, hwdt, hhdt⟩ := HST1.out
  have HTB : Hid (t ≤ 3145734 + 1 * 1048577) := Lib.hid htb
  obtain ⟨Wr, hWr⟩ : ∃ Wr, Wr = U1.alloc (.cells #[.int .i64 0] 3) := ⟨_, rfl⟩
  have hr0 : Wr.heap.size = U1.heap.size + 1 := by rw [hWr, alloc_size]
  have HR0 : Hid (RSt U1.heap.size B1 q p want F S0 X0 U1 0 t Wr) := Lib.hid ⟨by rw [hWr]; exact Blk.new _ _ _, by obtain ⟨key, hk⟩ := hhdt; exact ⟨key, by rw [hWr]; exact hk.alloc _⟩, by rw [hWr]; exact hwdt.below ((Below.refl _ _).alloc (Nat.le_refl _) _), by rw [hWr]; exact HBV1.out.trans (Touch.of_below ((Below.refl _ U1).alloc (Nat.le_refl _) _))⟩
  rw [← hWr]
  obtain ⟨nb, hnb⟩ : ∃ nb, nb = U1.heap.size := ⟨_, rfl⟩
  rw [← hnb] at HR0 hr0 ⊢
  have HNB : Hid (nb + 1 = Wr.heap.size ∧ U1.heap.size ≤ nb) := Lib.hid ⟨hr0.symm, by rw [hnb]; exact HBV1.out.size⟩
  clear hWr hr0 hnb hwdt hhdt htb
  let G : Nat → Prop := fun k => k = nb ∨ k = Wr.heap.size ∨ k = Wr.heap.size + 1
  let Pre : WR → World → Prop := fun x V => ks[x.i]? = some x.key ∧ x.cs.size = 19 ∧ (∀ u ∈ x.cs.toList, u.oneCell' = true) ∧ Wr.heap.size + 2 ≤ x.m ∧ x.m ≤ V.heap.size ∧ RSt nb B1 q p want F S0 X0 U1 x.i (t + 1 + (x.i + 1)) V ∧ LookAt V x.m (S0.read (objN x.key)).1 (S0.read (objN x.key)).2 { want with key := x.key } (.agg x.cs)
  have HPP : Hid (∀ x (V : World) (r : Nat) (o o' : Obj), Wr.heap.size ≤ r → V.heap[r]? = some o → o.isCells = false → Pre x V → Pre x (V.putObj r o')) := Lib.hid fun x V r o o' h1 h3 h4 h5 => by
    obtain ⟨p1, p2, p3, p4, p5, p6, p7⟩ := h5
    have := HNB.out
    have := HAD1.out
    refine ⟨p1, p2, p3, p4, by rw [World.putObj_size]; exact p5, p6.put_ h3 h4 (HFL.out r (by omega)) (by omega), p7.keepB fun k t cs _ hb _ => World.putObj_heap_other (blk_ne_obj hb h3 h4)⟩
  apply rangeFunc_any2 (Q := _) (w := Wr) rfl (hdd _) (gf := 77) (lb := #[.pointer (some ⟨B0, 0, none⟩), .pointer (some ⟨B1, 0, none⟩)]) rfl trivial (enters_of Tryz.func77 (by kernel_rfl) rfl) (fun x : WR => #[strV x.key, .agg x.cs]) (fun _ => rfl)
    (fun x V => V = x.W1 ∧ Pre x V)
    (fun x V => Touch (fun k => G k ∨ x.m ≤ k) x.W1 V ∧ RSt nb B1 q p want F S0 X0 U1 (x.i + 1) (t + 1 + (x.i + 1)) V)
    (fun _ _ _ => False) (fun V => Below Wr.heap.size Wr V ∧ Wr.heap.size + 2 ≤ V.heap.size)
    (fun V => RSt nb B1 q p want F S0 X0 U1 n (t + 1 + n) V) (fun _ _ => False)
    ?hseq ?hJ ?hIx ?hE ?hEx ?h0 _ (fun x V => Blk V x.W1.heap.size 57 x.cs ∧ Pre x V ∧ Touch (fun k => G k ∨ x.m ≤ k) x.W1 V) ?hM ?hassign ?hbody ?hdone ?hstop
  case hseq =>
    intro l K Kx hK hKx hround V hV hI0 hKV
    obtain ⟨hI1, hI2⟩ := hI0
    have had := HAD1.out
    have hnb := HNB.out
    have hFV : ∀ k, F k → k < V.heap.size := fun k hk => by have := HF3.out k hk; have := HZ6.out; omega
    have hRV : RSt nb B1 q p want F S0 X0 U1 0 t V := HR0.out.touch (Touch.of_below (F := fun _ => False) hI1) (fun _ h => h.elim) (fun h => h) t (HR0.out.wd.below hI1) (by obtain ⟨key, hk⟩ := HR0.out.head; exact ⟨key, hk.below hI1 hk.lt⟩)
    have h := all1_in (0 - 1) l B0 B1 q p (struckN t X0) S0 F V want HST.out t HR.out.now HR.out.names (Nat.le_trans HR.out.dlen (by decide)) HR.out.read hRV.wd hFV (by have h9 := struckN_okn HR.out.okn t; rwa [Nat.zero_add] at h9) (by have := HTB.out; have := HR.out.dlen; omega) HR.out.small
      (struckN (t + 1) X0) (dnames S0.now) 0 (calm_reads HR.out.calm t _) (HU1.out V hRV.base).2.2.2.2.2.2.2 hRV.head (HFL.out _ (by omega)) (HFL.out _ (by omega)) G (fun k hk => by rcases hk with h | h | h <;> omega) (fun k hk h => HFL.out k (by rcases h with h | h | h <;> omega) hk) (fun h => by rcases h with h | h | h <;> omega) (fun h => by rcases h with h | h | h <;> omega)
      (fun m i V2 => (RSt nb B1 q p want F S0 X0 U1 i (t + 1 + i) V2 ∧ Wr.heap.size + 2 ≤ m) ∧ K V2) (fun _ => False) ?gJ ?gJx ?g0 ?gY
    case gJ =>
      rintro m i V1 r o o' h1 h2 h3 ⟨⟨r1, r2⟩, hk⟩
      exact ⟨⟨r1.put_ h2 h3 (HFL.out r (by omega)) (by omega), r2⟩, hK V1 _ (fun k k1 k2 => World.putObj_heap_other (by omega)) hk⟩
    case gJx => exact fun _ _ _ _ _ _ _ h => h
    case g0 =>
      intro V1 hd1 ht1
      exact ⟨⟨hRV.touch ht1 (fun k hk => .inl hk) (HFL.out _ (by omega)) (t + 1 + 0) hd1 (by obtain ⟨key, hk⟩ := hRV.head; exact ⟨key, hk.touch ht1 (HFL.out _ (by omega))⟩), Nat.le_trans hI2 ht1.size⟩, hK V V1 (Lies.touch ht1 (HFL.out _ (by omega)) (HFL.out _ (by omega)) hI2) hKV⟩
    case gY =>
      rintro m i key v V1 V2 Z ds e hkey hm hle ⟨⟨hst, hmB⟩, hk1⟩ ht12 hrd hlk hwd hb1
      obtain ⟨cs, rfl, hcs, hone⟩ := look_agg hlk
      rw [struckN_add, calm_reads HR.out.calm] at hrd
      injection hrd with _ hrd
      injection hrd with hr1 hr2
      subst hr1 hr2
      rw [HKS.out] at hkey
      rw [struckN_add] at hwd
      have hF2 : ∀ k, F k ∨ k = B1 → k < U1.heap.size := fun k h => by
        rcases h with h | h
        · have := HF3.out k h; have := HZ6.out; omega
        · omega
      have hpre : Pre ⟨m, i, key, cs, V2⟩ V2 := ⟨hkey, hcs, hone, hmB, Nat.le_trans hle ht12.size, hst.touch ht12 (fun k hk => by
        rcases hk with h | h
        · exact .inl h
        · exact .inr (.inl h)) (fun h => by have := hF2 _ h; omega) _ hwd ⟨key, hb1⟩, hlk.base hle⟩
      have hk2 : K V2 := hK V1 V2 (Lies.touch ht12 (fun h => by have := hF2 _ h; omega) (fun h => by have := hF2 _ h; omega) (by omega)) hk1
      refine (YieldAt.any rfl _ (hround ⟨m, i, key, cs, V2⟩ V2 ⟨rfl, hpre⟩ hk2)).mono ?_
      rintro e V3 (⟨rfl, ⟨ht3, hst3⟩, hk3⟩ | ⟨rfl, c, hx, hkx⟩)
      · exact .inl ⟨rfl, ⟨⟨hst3, hmB⟩, hk3⟩, ht3⟩
      · exact hx.elim
    refine CallsIn.mono h ?_
    rintro e V2 ⟨hv, (⟨m, ⟨q2, _⟩, hk⟩ | hx)⟩
    · rw [HKS.out, HNK.out] at q2
      exact ⟨hv, .inl ⟨q2, hk⟩⟩
    · exact hx.elim
  case hJ => exact fun x V r o o' h1 h2 h3 h4 h5 => ⟨h5.1.put_ (.inl (.inr (by omega))) o', h5.2.put_ h3 h4 (HFL.out r (by have := HNB.out; have := HAD1.out; omega)) (by have := HNB.out; omega)⟩
  case hIx => exact fun _ _ _ _ _ _ _ _ _ _ h => h
  case hE => exact fun V r o o' h1 h2 h3 h4 h5 => h5.put_ h3 h4 (HFL.out r (by have := HNB.out; have := HAD1.out; omega)) (by have := HNB.out; omega)
  case hEx => exact fun _ _ _ _ _ _ _ _ _ h => h
  case h0 => exact fun o1 o2 => ⟨((Below.refl _ Wr).alloc (Nat.le_refl _) _).alloc (by rw [alloc_size]; omega) _, by rw [alloc_size, alloc_size]; exact Nat.le_refl _⟩
  case hM =>
    rintro x V r o o' h1 h2 h3 h4 ⟨q1, q4, q5⟩
    exact ⟨q1.put_ (blk_ne_obj q1 h3 h4) o', HPP.out x V r o o' h1 h3 h4 q4, q5.put_ (.inl (.inr (by omega))) o'⟩
  case hassign =>
    rintro l x V K ⟨rfl, hpre⟩ hV hK
    have HP := Lib.hid hpre
    obtain ⟨W2, hr2, hk2, ht2, hs2⟩ := store_seen (w := x.W1.alloc (.cells (seen0 0 0) 57)) (R := x.W1.heap.size) (CK := x.cs) (Blk.new _ _ _) rfl hpre.2.1 hpre.2.2.1
    have HB2 : Hid (Below x.W1.heap.size x.W1 W2) := Lib.hid (((Below.refl _ x.W1).alloc (Nat.le_refl _) _).trans (ht2.below (by rw [alloc_size]; exact Nat.le_succ _) (fun k hk => Nat.le_of_eq hk.symm)))
    have HK2 := Lib.hid hk2
    clear hpre hk2 ht2 hs2
    gi_wp2_with (refine wpListIn_store_at rfl 57 _ _ rfl ⟨x.W1.heap.size, 0, none⟩ rfl (.agg x.cs) rfl W2 hr2 ?_)
    refine hK _ (Lies.below HB2.out (by have := HP.out.2.2.2.1; have := HP.out.2.2.2.2.1; omega)) ⟨HK2.out, ?_, Touch.of_below HB2.out⟩
    obtain ⟨p1, p2, p3, p4, p5, p6, p7⟩ := HP.out
    exact ⟨p1, p2, p3, p4, Nat.le_trans p5 HB2.out.size, p6.touch (Touch.of_below (F := fun _ => False) HB2.out) (fun _ h => h.elim) (fun h => h) _ (p6.wd.below HB2.out) (by obtain ⟨key, hk⟩ := p6.head; exact ⟨key, hk.below HB2.out hk.lt⟩), p7.keepB fun k t cs _ hb _ => HB2.out.block k hb.lt⟩
  case hbody =>
    rintro l x V ⟨hbk, ⟨p1, p2, p3, p4, p5, p6, p7⟩, ht⟩ hV
    have had := HAD1.out
    have hnb := HNB.out
    have HT := Lib.hid ht
    have hil : x.i < n := by have := (List.getElem?_eq_some_iff.1 p1).1; rw [HNK.out] at this; exact this
    have hul : x.i < us.length := by have := HUL.out; omega
    obtain rfl := HA.out (by omega)
    obtain ⟨⟨uk, ucs⟩, hu⟩ : ∃ u, us[x.i]? = some u := ⟨us[x.i], List.getElem?_eq_getElem hul⟩
    have hus := HU1.out V p6.base
    obtain ⟨e1, hz2, hl2⟩ := hus.2.2.2.2.2.1 x.i _ hu
    have e2 : uk = x.key := by
      have e3 : ks[x.i]? = some uk := e1
      rw [p1] at e3
      injection e3 with e3
      exact e3.symm
    subst e2
    have hsv : SameV V V.heap.size x.cs ucs := sameV_of p7 hl2
    obtain ⟨tt, htt⟩ : ∃ tt : ByteArray, strV x.key = .string tt := ⟨_, rfl⟩
    obtain ⟨SS, hSS⟩ : ∃ SS : World → Prop, SS = (fun U => U.cell? ⟨nb, 0, none⟩ = some (.int .i64 (x.i : Int)) ∧ U.cell? ⟨O, 0, none⟩ = some (.slice (some ⟨g, 0, none⟩) n ac) ∧ U.cell? ⟨g, x.i * 20, none⟩ = some (.string tt) ∧ (loadVar 57 ⟨x.W1.heap.size, 0, none⟩).run Tryz.prog U = .ok (.agg x.cs) U ∧ (loadVar 57 ⟨g, x.i * 20 + 1, none⟩).run Tryz.prog U = .ok (.agg ucs) U) := ⟨_, rfl⟩
    have HSA : Hid (∀ U, Below V.heap.size V U → SS U) := Lib.hid fun U hU => by
      rw [hSS]
      have q1 := hus.2.2.2.2.1.keep (fun he => hU.block g (hus.2.2.2.2.1.1 he)) hU.size
      exact ⟨(p6.num.below hU p6.num.lt).cell 0, (hus.2.2.2.1.below hU hus.2.2.2.1.lt).cell 0, (q1.key hu).trans (congrArg some htt), load_seen (hbk.below hU hbk.lt) p2, q1.seen hu hz2⟩
    have HSQ := Lib.hid hSS
    have HSV := Lib.hid (fun U (hU : Below V.heap.size V U) => sameV_yes ((hsv.below hU).upto hU.size))
    have HSS := Lib.hid (HSA.out V.drew (below_drew1 (Below.refl _ V)))
    have HP6 := Lib.hid p6
    have HPM := Lib.hid (And.intro p4 p5)
    have HWI : Hid (wrap64 ((x.i : Int) + 1) = (x.i : Int) + 1) := Lib.hid (IntWalk.wrap64_in _ (by have := HKN.out; omega))
    have hil' : (x.i : Int) < (n : Int) := by omega
    have hge : ¬ (n : Int) ≤ (x.i : Int) := by omega
    have hge2 : ¬ n ≤ x.i := by omega
    have hge3 : decide ((n : Int) ≤ (x.i : Int)) = false := decide_eq_false hge
    have hge4 : decide ((x.i : Int) ≥ (n : Int)) = false := decide_eq_false hge
    have hi0 : (0 : Int) ≤ (x.i : Int) := Int.natCast_nonneg _
    rw [htt]
    clear hSS hsv hus hz2 hl2 hu e1 p1 p2 p3 p4 p5 p6 p7 ht hbk htt hul had hnb
    gi_wp2_with fail
    refine wpIn_region_held SS (by kernel_rfl) ?_
    refine hrT (v := ?_) 0 rfl HSS.out ?_ ?_
    rotate_left
    · (intro U hU; rw [HSQ.out] at hU; obtain ⟨hU0, hU1, hU2, _, _⟩ := hU; go_simp; try with_reducible rfl)
    try simp only [Act.put, List.setIfInBounds_toArray, List.set_cons_zero, List.set_cons_succ]
    refine hrT (v := ?_) 1 rfl HSS.out ?_ ?_
    rotate_left
    · (intro U hU; rw [HSQ.out] at hU; obtain ⟨hU0, hU1, hU2, _, _⟩ := hU; go_simp; try with_reducible rfl)
    try simp only [Act.put, List.setIfInBounds_toArray, List.set_cons_zero, List.set_cons_succ]
    refine hrT (v := ?_) 2 rfl HSS.out ?_ ?_
    rotate_left
    · (intro U hU; clear hU; go_simp; try with_reducible rfl)
    try simp only [Act.put, List.setIfInBounds_toArray, List.set_cons_zero, List.set_cons_succ]
    refine hrT (v := ?_) 3 rfl HSS.out ?_ ?_
    rotate_left
    · (intro U hU; clear hU; go_simp; try with_reducible rfl)
    try simp only [Act.put, List.setIfInBounds_toArray, List.set_cons_zero, List.set_cons_succ]
    refine hrT (v := ?_) 4 rfl HSS.out ?_ ?_
    rotate_left
    · (intro U hU; clear hU; go_simp; try with_reducible rfl)
    try simp only [Act.put, List.setIfInBounds_toArray, List.set_cons_zero, List.set_cons_succ]
    refine hrT (v := ?_) 5 rfl HSS.out ?_ ?_
    rotate_left
    · (intro U hU; clear hU; go_simp; try with_reducible rfl)
    try simp only [Act.put, List.setIfInBounds_toArray, List.set_cons_zero, List.set_cons_succ]
    refine hrT (v := ?_) 6 rfl HSS.out ?_ ?_
    rotate_left
    · (intro U hU; rw [HSQ.out] at hU; obtain ⟨hU0, hU1, hU2, _, _⟩ := hU; go_simp; try with_reducible rfl)
    try simp only [Act.put, List.setIfInBounds_toArray, List.set_cons_zero, List.set_cons_succ]
    refine hrT (v := ?_) 7 rfl HSS.out ?_ ?_
    rotate_left
    · (intro U hU; rw [HSQ.out] at hU; obtain ⟨hU0, hU1, hU2, _, _⟩ := hU; go_simp; try with_reducible rfl)
    try simp only [Act.put, List.setIfInBounds_toArray, List.set_cons_zero, List.set_cons_succ]
    refine hrT (v := ?_) 8 rfl HSS.out ?_ ?_
    rotate_left
    · (intro U hU; clear hU; go_simp; try with_reducible rfl)
    try simp only [Act.put, List.setIfInBounds_toArray, List.set_cons_zero, List.set_cons_succ]
    refine hrT (v := ?_) 9 rfl HSS.out ?_ ?_
    rotate_left
    · (intro U hU; clear hU; go_simp; try with_reducible rfl)
    try simp only [Act.put, List.setIfInBounds_toArray, List.set_cons_zero, List.set_cons_succ]
    refine hrT (v := ?_) 10 rfl HSS.out ?_ ?_
    rotate_left
    · (intro U hU; rw [HSQ.out] at hU; obtain ⟨hU0, hU1, hU2, _, _⟩ := hU; go_simp; try with_reducible rfl)
    try simp only [Act.put, List.setIfInBounds_toArray, List.set_cons_zero, List.set_cons_succ]
    refine hrT (v := ?_) 11 rfl HSS.out ?_ ?_
    rotate_left
    · (intro U hU; clear hU; go_simp; try with_reducible rfl)
    try simp only [Act.put, List.setIfInBounds_toArray, List.set_cons_zero, List.set_cons_succ]
    refine hrT (v := ?_) 12 rfl HSS.out ?_ ?_
    rotate_left
    · (intro U hU; clear hU; go_simp; try with_reducible rfl)
    try simp only [Act.put, List.setIfInBounds_toArray, List.set_cons_zero, List.set_cons_succ]
    refine hrT (v := ?_) 13 rfl HSS.out ?_ ?_
    rotate_left
    · (intro U hU; clear hU; go_simp; try with_reducible rfl)
    try simp only [Act.put, List.setIfInBounds_toArray, List.set_cons_zero, List.set_cons_succ]
    refine hrT (v := (.agg x.cs)) 14 rfl HSS.out (fun U hU => load_yields 57 (.tmp 18) rfl ⟨x.W1.heap.size, 0, none⟩ rfl (.agg x.cs) (by rw [HSQ.out] at hU; exact hU.2.2.2.1)) ?_
    try simp only [Act.put, List.setIfInBounds_toArray, List.set_cons_zero, List.set_cons_succ]
    refine hrT (v := ?_) 15 rfl HSS.out ?_ ?_
    rotate_left
    · (intro U hU; rw [HSQ.out] at hU; obtain ⟨hU0, hU1, hU2, _, _⟩ := hU; go_simp; try with_reducible rfl)
    try simp only [Act.put, List.setIfInBounds_toArray, List.set_cons_zero, List.set_cons_succ]
    refine hrT (v := ?_) 16 rfl HSS.out ?_ ?_
    rotate_left
    · (intro U hU; rw [HSQ.out] at hU; obtain ⟨hU0, hU1, hU2, _, _⟩ := hU; go_simp; try with_reducible rfl)
    try simp only [Act.put, List.setIfInBounds_toArray, List.set_cons_zero, List.set_cons_succ]
    refine hrT (v := ?_) 17 rfl HSS.out ?_ ?_
    rotate_left
    · (intro U hU; clear hU; go_simp; try with_reducible rfl)
    try simp only [Act.put, List.setIfInBounds_toArray, List.set_cons_zero, List.set_cons_succ]
    refine hrT (v := ?_) 18 rfl HSS.out ?_ ?_
    rotate_left
    · (intro U hU; clear hU; go_simp; try with_reducible rfl)
    try simp only [Act.put, List.setIfInBounds_toArray, List.set_cons_zero, List.set_cons_succ]
    refine hrT (v := (.agg ucs)) 19 rfl HSS.out (fun U hU => load_yields 57 (.tmp 112) rfl ⟨g, x.i * 20 + 1, none⟩ rfl (.agg ucs) (by rw [HSQ.out] at hU; exact hU.2.2.2.2)) ?_
    try simp only [Act.put, List.setIfInBounds_toArray, List.set_cons_zero, List.set_cons_succ]
    refine wpAnyHR_one (i := 20) (by kernel_rfl) rfl ?_
    intro K20 hK20
    go_simp
    refine (CallsIn.inRound l (callsIn_wide.2 (HSV.out _ (below_drew1 (Below.refl _ V))))).mono ?_
    rintro e w2 ⟨rfl, hb2⟩
    have hb2 : Below V.heap.size V w2 := (below_drew1 (Below.refl _ V)).trans hb2
    have HB2 := Lib.hid hb2
    have HSS := Lib.hid (HSA.out w2 hb2)
    clear hb2
    refine hK20 _ _ ⟨HSS.out, ?_⟩
    clear hK20 K20; try simp only [Act.put, List.setIfInBounds_toArray, List.set_cons_zero, List.set_cons_succ]
    refine hrT (v := ?_) 21 rfl HSS.out ?_ ?_
    rotate_left
    · (intro U hU; clear hU; go_simp; try with_reducible rfl)
    try simp only [Act.put, List.setIfInBounds_toArray, List.set_cons_zero, List.set_cons_succ]
    refine hrT (v := ?_) 22 rfl HSS.out ?_ ?_
    rotate_left
    · (intro U hU; clear hU; go_simp; try with_reducible rfl)
    try simp only [Act.put, List.setIfInBounds_toArray, List.set_cons_zero, List.set_cons_succ]
    refine wpAnyHR_done (by kernel_rfl) ?_ _
    have hb2 := HB2.out
    have p6 := HP6.out.touch (Touch.of_below (F := fun _ => False) hb2) (fun _ h => h.elim) (fun h => h) _ (HP6.out.wd.below hb2) (by obtain ⟨key, hk⟩ := HP6.out.head; exact ⟨key, hk.below hb2 hk.lt⟩)
    have c0 := p6.num.cell 0
    have f0 := p6.num.frozen 0
    have HQ6 := Lib.hid p6
    clear hb2 p6
    gi_wp2_with fail
    rw [HWI.out]
    have had := HAD1.out
    have hnb := HNB.out
    have hpm := HPM.out
    have hlt : nb < w2.heap.size := HQ6.out.num.lt
    have htn : Touch (fun k => k = nb) w2 (w2.setCell ⟨nb, 0, none⟩ (.int .i64 ((x.i : Int) + 1))) := Touch.setCell (F := fun k => k = nb) w2 ⟨nb, 0, none⟩ _ rfl
    have h2n : Touch (fun k => k = nb) V (w2.setCell ⟨nb, 0, none⟩ (.int .i64 ((x.i : Int) + 1))) := (Touch.of_below (F := fun k => k = nb) HB2.out).trans (htn.mono fun k _ h => .inl h)
    refine ⟨fun k k1 k2 => (Below.heap_setCell w2 ⟨nb, 0, none⟩ _ k (by show k ≠ nb; omega)).trans (HB2.out.block k (by omega)), HT.out.trans (h2n.mono fun k _ h => .inl (.inl (.inl h))), ?_⟩
    · refine ⟨?_, ?_, HQ6.out.wd.keep htn (fun k hk e => HFL.out nb (by omega) (by rw [← e]; exact hk)), HQ6.out.base.trans (htn.mono fun k _ h => .inr (by omega))⟩
      · have h9 := HQ6.out.num.set_ 0 (.int .i64 ((x.i : Int) + 1))
        rw [show (#[(.int .i64 (x.i : Int) : Value)]).setIfInBounds 0 (.int .i64 ((x.i : Int) + 1)) = #[(.int .i64 ((x.i + 1 : Nat) : Int))] from by rw [Int.natCast_add]; rfl] at h9
        exact h9
      · obtain ⟨key, hk⟩ := HQ6.out.head
        exact ⟨key, hk.touch htn (by omega)⟩
  case hstop => exact fun _ _ h _ => h.elim
  case hdone =>
  intro U2 hst2 hdf2
  have c0 := hst2.num.cell 0
  have cO := (HU1.out U2 hst2.base).2.2.2.1.cell 0
  have HST2 : Hid (t + 1 + n ≤ 3145734 + 2 * 1048577 ∧ WD U2 q p (struckN (t + 1 + n) X0) S0 F) := Lib.hid ⟨by have := HTB.out; have := HKN.out; omega, hst2.wd⟩
  have HU2 := Lib.hid fun V (hV : Touch F U2 V) => HU1.out V (hst2.base.trans (hV.mono fun k _ h => .inl (.inl h)))
  have HAD2 : Hid (O = w6.heap.size ∧ B0 = w6.heap.size + 1 ∧ B1 = w6.heap.size + 1 + 1 ∧ w6.heap.size + 3 ≤ U2.heap.size) := Lib.hid ⟨HAD0.out.1, HAD0.out.2.1, HAD0.out.2.2.1, by have := HAD1.out.2.2.2; have := hst2.base.size; omega⟩
  have HBW2 : Hid (Below w.heap.size w U2) := Lib.hid (HBW1.out.trans (hst2.base.below (by have := HBW1.out.size; omega) fun k hk => by
    rcases hk with h | h
    · have := HF.out _ h; omega
    · have := HAD0.out; have := HZ6.out; have := HZ5.out; have := HL3.out; omega))
  obtain ⟨r2, hr2⟩ : ∃ r, r = Wr.heap.size := ⟨_, rfl⟩
  rw [← hr2] at hdf2 ⊢
  have HRL2 : Hid (w.heap.size ≤ r2 ∧ r1 ≠ r2) := Lib.hid (by have := HNB.out; have := HBW1.out.size; have := HRL1.out; exact ⟨by omega, by omega⟩)
  have HDF2 : Hid (∀ V, Touch F U2 V → V.heap[r1]? = some (.deferred (some [])) ∧ V.heap[r2]? = some (.deferred (some []))) := Lib.hid fun V hV => by
    have hl : r2 < U2.heap.size := (Array.getElem?_eq_some_iff.1 hdf2).1
    have had := HAD1.out
    have hnb := HNB.out
    refine ⟨HDF1.out V (hst2.base.trans (hV.mono fun k _ h => .inl (.inl h))), ?_⟩
    rw [hV.block r2 hl (fun h => HFL.out r2 (by omega) h)]
    exact hdf2
  clear hst2 hdf2 hr2 HPP HR0 HTB HST1 HBV1 HU1 HU0 HU HDF1 HBW1 HBW HAD1 HAD0 HAD HNB
  clear_value G Pre
  gi_wp2_with fail
  rw [roundsIn_succ]
  gi_wp2_with fail
  clear c0 cO
  gi_loopw [19] (fun s19 wr => ∃ i : Nat, i ≤ n ∧ s19 = .int .i64 (i : Int) ∧ (∃ t, t ≤ 5242888 + 2 * i ∧ WD wr q p (struckN t X0) S0 F) ∧ Touch F U2 wr) (fun s _ => n - (intOf s).toNat)
  case atStart => exact ⟨0, Nat.zero_le _, rfl, ⟨t + 1 + n, by have := HST2.out.1; omega, HST2.out.2⟩, Touch.refl _ _⟩
  case round =>
    obtain ⟨i, hi, rfl, ⟨t', ht', hwd⟩, htu⟩ := hrel
    have HT := Lib.hid htu
    have HWI : Hid (wrap64 ((i : Int) + 1) = (i : Int) + 1) := Lib.hid (IntWalk.wrap64_in _ (by have := HKN.out; omega))
    have hu := HU2.out wr htu
    have cO := hu.2.2.2.1.cell 0
    have HTT : Hid (t' ≤ 5242888 + 2 * i) := Lib.hid ht'
    have HWD := Lib.hid hwd
    have hi0 : (0 : Int) ≤ (i : Int) := Int.natCast_nonneg _
    clear htu hwd ht'
    by_cases hlt : i < n
    · have hlt' : (i : Int) < (n : Int) := by omega
      obtain ⟨key, hkey⟩ : ∃ k, ks[i]? = some k := ⟨ks[i]'(by have := HNK.out; omega), List.getElem?_eq_getElem (by have := HNK.out; omega)⟩
      obtain rfl := HA.out (by omega)
      obtain rfl := HKA.out (by omega)
      have hkk := hu.2.2.2.2.2.2.1.2 i key hkey
      have hkl := HKR.out key (List.mem_of_getElem? hkey)
      obtain ⟨tt, htt⟩ : ∃ tt : ByteArray, strV key = .string tt := ⟨_, rfl⟩
      rw [htt] at hkk
      have HHD := Lib.hid hu.2.1
      have hL := load_head HHD.out HCW.out
      have hLt := hu.2.1.lt
      have hone : ∀ v ∈ CW.toList, v.oneCell' = true := by rw [HCE.out]; exact hd_one _
      obtain ⟨W3, hr3, hk3, ht3, hs3⟩ := store_hd (w := wr.alloc (.cells zeroHd 28)) (R := wr.heap.size) (CK := CW) (Blk.new _ _ _) rfl HCW.out hone
      have HB3 : Hid (Below wr.heap.size wr W3) := Lib.hid (((Below.refl _ wr).alloc (Nat.le_refl _) _).trans (ht3.below (by rw [alloc_size]; exact Nat.le_succ _) (fun k hk => Nat.le_of_eq hk.symm)))
      have hs3' : W3.heap.size = wr.heap.size + 1 := by rw [hs3, alloc_size]
      have hkk3 : W3.cell? ⟨gk, i, none⟩ = some (.string tt) := (World.cell?_of_block (HB3.out.block gk (hu.2.2.2.2.2.2.1.1 (fun e => by rw [e] at hkey; cases hkey)))).trans hkk
      have HK3 := Lib.hid hk3
      have c11 : W3.cell? ⟨wr.heap.size, 11, none⟩ = some (strV want.key) := (hk3.cell 11).trans (by rw [HCE.out]; exact hd_key16 HST.out)
      have f11 := hk3.frozen 11
      have hgl : gk < wr.heap.size := hu.2.2.2.2.2.2.1.1 (fun e => by rw [e] at hkey; cases hkey)
      obtain ⟨t0, ht0⟩ : ∃ t0 : ByteArray, strV want.key = .string t0 := ⟨_, rfl⟩
      rw [ht0] at c11
      have HKL := Lib.hid hkl
      have HTT2 := Lib.hid htt
      have HKEY := Lib.hid hkey
      have HUU := Lib.hid hu
      clear hk3 ht3 hs3 hkl htt hkey hu hone ht0 hkk
      obtain ⟨W4, hW4⟩ : ∃ W4, W4 = W3.setCell ⟨wr.heap.size, 11, none⟩ (.string tt) := ⟨_, rfl⟩
      obtain ⟨CK2, hCK2⟩ : ∃ C, C = hdCells { want with key := key } := ⟨_, rfl⟩
      have hK4 : Blk W4 wr.heap.size 28 CK2 := by
        have h9 := HK3.out.set_ 11 (.string tt)
        rw [HCE.out, ← HTT2.out, hd_setKey HST.out, HTT2.out, ← hCK2, ← hW4] at h9
        exact h9
      have hC2 : CK2.size = 16 := by rw [hCK2]; exact hdCells_size HST.out
      have hL4 := load_head hK4 hC2
      have HK4 := Lib.hid hK4
      have HC2 := Lib.hid hC2
      have HCK := Lib.hid hCK2
      have hB4 : Below wr.heap.size wr W4 := by rw [hW4]; exact HB3.out.setCell (Nat.le_refl _) _
      have HB4 := Lib.hid hB4
      have hz4 : W4.heap.size = wr.heap.size + 1 := by rw [hW4, size_set', hs3']
      have HZ4 := Lib.hid hz4
      have HFw : Hid (∀ k, wr.heap.size ≤ k → ¬F k) := Lib.hid fun k hk h => by have := HF3.out k h; have := HAD2.out; have := HT.out.size; have := HZ6.out; omega
      have hLK := HR.out.look t' (by have := HTT.out; have := HKN.out; omega) W4 (HWD.out.below hB4) (fun k hk => by have := HF3.out k hk; have := HAD2.out; have := HT.out.size; have := HZ6.out; omega) { want with key := key } HST.out HKL.out.1 HKL.out.2
      unfold hdV at hLK
      rw [← hCK2] at hLK
      have HLK := Lib.hid hLK
      rw [hW4] at hL4
      have HW4 := Lib.hid hW4
      clear hW4 hCK2 hK4 hC2 hB4 hz4 hLK hs3'
      gi_wp2_with (first
        | (refine wpListIn_load_at rfl 28 _ rfl ⟨w.heap.size + 1, 0, none⟩ rfl (.agg CW) hL ?_)
        | (refine wpListIn_store_at rfl 28 _ _ rfl ⟨wr.heap.size, 0, none⟩ rfl (.agg CW) rfl W3 hr3 ?_)
        | (refine wpListIn_load_at rfl 28 _ rfl ⟨wr.heap.size, 0, none⟩ rfl (.agg CK2) hL4 ?_)
        | fail)
      rw [← HW4.out]
      clear hL hr3 hkk3 c11 f11 hL4 hgl hLt cO
      refine (callsIn_wide.2 HLK.out).mono ?_
      clear HLK
      rintro e wL ⟨lv, rfl, hlk, hdL, htL⟩
      obtain ⟨lcs, rfl, hlc, hlo⟩ := look_agg hlk
      obtain ⟨WS, hrS, hkS, htS, hsS⟩ := store_seen (w := wL.alloc (.cells (seen0 0 0) 57)) (R := wL.heap.size) (CK := lcs) (Blk.new _ _ _) rfl hlc hlo
      have HBS : Hid (Below wL.heap.size wL WS) := Lib.hid (((Below.refl _ wL).alloc (Nat.le_refl _) _).trans (htS.below (by rw [alloc_size]; exact Nat.le_succ _) (fun k hk => Nat.le_of_eq hk.symm)))
      have HKS1 := Lib.hid hkS
      have HLKA := Lib.hid hlk
      have HDL := Lib.hid hdL
      have HTL := Lib.hid htL
      have HLC := Lib.hid (And.intro hlc hlo)
      have hzS : WS.heap.size = wL.heap.size + 1 := by rw [hsS, alloc_size]
      have HZS := Lib.hid hzS
      have HK5 := Lib.hid ((HK4.out.touch htL (HFw.out _ (Nat.le_refl _))).below HBS.out (by have := htL.size; have := HZ4.out; omega))
      have hL5 := load_head HK5.out HC2.out
      have hGL := HR.out.glance (t' + 1) (by have := HTT.out; have := HKN.out; omega) WS (hdL.below HBS.out) (fun k hk => by have := HF3.out k hk; have := HAD2.out; have := HT.out.size; have := HZ6.out; have := HZ4.out; have := htL.size; omega) { want with key := key } HST.out HKL.out.1 HKL.out.2
      unfold hdV at hGL
      rw [← HCK.out] at hGL
      have HGL := Lib.hid hGL
      clear hkS htS hsS hlk hdL htL hzS hGL hlc hlo
      gi_wp2_with (first
        | (refine wpListIn_store_at rfl 57 _ _ rfl ⟨wL.heap.size, 0, none⟩ rfl (.agg lcs) rfl WS hrS ?_)
        | (refine wpListIn_load_at rfl 28 _ rfl ⟨wr.heap.size, 0, none⟩ rfl (.agg CK2) hL5 ?_)
        | fail)
      refine (callsIn_wide.2 HGL.out).mono ?_
      clear HGL hL5 hrS
      rintro e wG ⟨gv, rfl, hgl, hdG, htG⟩
      obtain ⟨gcs, rfl, hgc, hgo⟩ := glance_agg hgl
      obtain ⟨WE, hrE, hkE, htE, hsE⟩ := store_seen (w := wG.alloc (.cells (seen0 0 0) 57)) (R := wG.heap.size) (CK := gcs) (Blk.new _ _ _) rfl hgc hgo
      have HBE : Hid (Below wG.heap.size wG WE) := Lib.hid (((Below.refl _ wG).alloc (Nat.le_refl _) _).trans (htE.below (by rw [alloc_size]; exact Nat.le_succ _) (fun k hk => Nat.le_of_eq hk.symm)))
      have HDE : Hid (WD WE q p (struckN (t' + 2) X0) S0 F) := Lib.hid (hdG.below HBE.out)
      have HTE : Hid (Touch F wr WE) := Lib.hid (((((Touch.of_below HB4.out).trans (HTL.out.mono fun k _ h => .inl h)).trans (Touch.of_below HBS.out)).trans (htG.mono fun k _ h => .inl h)).trans (Touch.of_below HBE.out))
      have htLE : Touch F wL WE := ((Touch.of_below HBS.out).trans (htG.mono fun k _ h => .inl h)).trans (Touch.of_below HBE.out)
      have hlSz : wr.heap.size + 1 ≤ wL.heap.size := by have := HTL.out.size; have := HZ4.out; omega
      have hL2 : LookAt WE W4.heap.size (S0.read (objN key)).1 (S0.read (objN key)).2 { want with key := key } (.agg lcs) := HLKA.out.keepB fun k t cs hk hb _ => htLE.block k hb.lt (HFw.out k (by have := HZ4.out; omega))
      have hKL2 : Blk WE wL.heap.size 57 lcs := (HKS1.out.touch htG (HFw.out _ (by omega))).below HBE.out (by have := htG.size; have := HZS.out; omega)
      have HKL2 := Lib.hid hKL2
      have HKG := Lib.hid hkE
      have hcs := look_glance hL2 hgl
      have HCS := Lib.hid hcs
      have huE := HU2.out WE (HT.out.trans (HTE.out.mono fun k _ h => .inl h))
      have hul : i < us.length := by have := HUL.out; omega
      obtain ⟨⟨uk, ucs⟩, hu'⟩ : ∃ u, us[i]? = some u := ⟨us[i], List.getElem?_eq_getElem hul⟩
      obtain ⟨e1, hz2, hl2⟩ := huE.2.2.2.2.2.1 i _ hu'
      have e2 : uk = key := by
        have e3 : ks[i]? = some uk := e1
        rw [HKEY.out] at e3
        injection e3 with e3
        exact e3.symm
      subst e2
      have hsv : SameV WE WE.heap.size ucs lcs := sameV_of hl2 hL2
      obtain ⟨SS, hSS⟩ : ∃ SS : World → Prop, SS = (fun U => U.cell? ⟨O, 0, none⟩ = some (.slice (some ⟨g, 0, none⟩) n ac) ∧ U.cell? ⟨g, i * 20, none⟩ = some (.string tt) ∧ U.cell? ⟨gk, i, none⟩ = some (.string tt) ∧ (∀ j k, j + 1 = i → ks[j]? = some k → U.cell? ⟨gk, j, none⟩ = some (strV k)) ∧ (loadVar 57 ⟨g, i * 20 + 1, none⟩).run Tryz.prog U = .ok (.agg ucs) U ∧ (loadVar 57 ⟨wL.heap.size, 0, none⟩).run Tryz.prog U = .ok (.agg lcs) U) := ⟨_, rfl⟩
      have HSA : Hid (∀ U, Below WE.heap.size WE U → SS U) := Lib.hid fun U hU => by
        rw [hSS]
        have q1 := huE.2.2.2.2.1.keep (fun he => hU.block g (huE.2.2.2.2.1.1 he)) hU.size
        have q2 := huE.2.2.2.2.2.2.1.touch (Touch.of_below (F := fun _ => False) hU) (fun _ h => h)
        exact ⟨(huE.2.2.2.1.below hU huE.2.2.2.1.lt).cell 0, (q1.key hu').trans (congrArg some HTT2.out), (q2.2 i _ HKEY.out).trans (congrArg some HTT2.out), fun j k _ hk => q2.2 j k hk, q1.seen hu' hz2, load_seen (hKL2.below hU hKL2.lt) HLC.out.1⟩
      have HSQ := Lib.hid hSS
      have HSV := Lib.hid (fun U (hU : Below WE.heap.size WE U) => sameV_yes ((hsv.below hU).upto hU.size))
      have HSS := Lib.hid (HSA.out WE.drew (below_drew1 (Below.refl _ WE)))
      clear hkE htE hsE hgl hdG htG hL2 hKL2 hcs huE hu' hul hz2 hl2 e1 hsv hSS htLE hgc hgo
      gi_upto_region 34 with (first
        | (refine wpListIn_store_at rfl 57 _ _ rfl ⟨wG.heap.size, 0, none⟩ rfl (.agg gcs) rfl WE hrE ?_)
        | fail)
      clear hrE
      try simp only [Act.put, List.setIfInBounds_toArray, List.set_cons_zero, List.set_cons_succ]
      gi_cut [176] from 250 (fun s176 wx => s176 = .bool false ∧ Hid (Below WE.heap.size WE wx))
      case first =>
        by_cases hi1 : i = 0
        · have hg1 : ¬ (0 : Int) < (i : Int) := by omega
          have hg2 : ¬ 0 < i := by omega
          clear hi1
          refine wpIn_noPan ?_
          refine wpIn_region_held SS (by kernel_rfl) ?_
          refine hrT (v := ?_) 0 rfl HSS.out ?_ ?_
          rotate_left
          · (intro U hU; rw [HSQ.out] at hU; obtain ⟨hU0, hU1, hU2, hU3, _, _⟩ := hU; clear hU3; go_simp; try with_reducible rfl)
          try simp only [Act.put, List.setIfInBounds_toArray, List.set_cons_zero, List.set_cons_succ]
          refine hrT (v := ?_) 1 rfl HSS.out ?_ ?_
          rotate_left
          · (intro U hU; clear hU; go_simp; try with_reducible rfl)
          try simp only [Act.put, List.setIfInBounds_toArray, List.set_cons_zero, List.set_cons_succ]
          refine hrT (v := ?_) 2 rfl HSS.out ?_ ?_
          rotate_left
          · (intro U hU; clear hU; go_simp; try with_reducible rfl)
          try simp only [Act.put, List.setIfInBounds_toArray, List.set_cons_zero, List.set_cons_succ]
          refine hrT (v := ?_) 3 rfl HSS.out ?_ ?_
          rotate_left
          · (intro U hU; clear hU; go_simp; try with_reducible rfl)
          try simp only [Act.put, List.setIfInBounds_toArray, List.set_cons_zero, List.set_cons_succ]
          refine hrT (v := ?_) 4 rfl HSS.out ?_ ?_
          rotate_left
          · (intro U hU; rw [HSQ.out] at hU; obtain ⟨hU0, hU1, hU2, hU3, _, _⟩ := hU; clear hU3; go_simp; try with_reducible rfl)
          try simp only [Act.put, List.setIfInBounds_toArray, List.set_cons_zero, List.set_cons_succ]
          refine hrT (v := ?_) 5 rfl HSS.out ?_ ?_
          rotate_left
          · (intro U hU; clear hU; go_simp; try with_reducible rfl)
          try simp only [Act.put, List.setIfInBounds_toArray, List.set_cons_zero, List.set_cons_succ]
          refine hrT (v := ?_) 6 rfl HSS.out ?_ ?_
          rotate_left
          · (intro U hU; clear hU; go_simp; try with_reducible rfl)
          try simp only [Act.put, List.setIfInBounds_toArray, List.set_cons_zero, List.set_cons_succ]
          refine hrT (v := ?_) 7 rfl HSS.out ?_ ?_
          rotate_left
          · (intro U hU; clear hU; go_simp; try with_reducible rfl)
          try simp only [Act.put, List.setIfInBounds_toArray, List.set_cons_zero, List.set_cons_succ]
          refine hrT (v := ?_) 8 rfl HSS.out ?_ ?_
          rotate_left
          · (intro U hU; rw [HSQ.out] at hU; obtain ⟨hU0, hU1, hU2, hU3, _, _⟩ := hU; clear hU3; go_simp; try with_reducible rfl)
          try simp only [Act.put, List.setIfInBounds_toArray, List.set_cons_zero, List.set_cons_succ]
          refine hrT (v := ?_) 9 rfl HSS.out ?_ ?_
          rotate_left
          · (intro U hU; clear hU; go_simp; try with_reducible rfl)
          try simp only [Act.put, List.setIfInBounds_toArray, List.set_cons_zero, List.set_cons_succ]
          refine hrT (v := ?_) 10 rfl HSS.out ?_ ?_
          rotate_left
          · (intro U hU; clear hU; go_simp; try with_reducible rfl)
          try simp only [Act.put, List.setIfInBounds_toArray, List.set_cons_zero, List.set_cons_succ]
          refine hrT (v := ?_) 11 rfl HSS.out ?_ ?_
          rotate_left
          · (intro U hU; clear hU; go_simp; try with_reducible rfl)
          try simp only [Act.put, List.setIfInBounds_toArray, List.set_cons_zero, List.set_cons_succ]
          refine hrT (v := ?_) 12 rfl HSS.out ?_ ?_
          rotate_left
          · (intro U hU; clear hU; go_simp; try with_reducible rfl)
          try simp only [Act.put, List.setIfInBounds_toArray, List.set_cons_zero, List.set_cons_succ]
          refine hrT (v := ?_) 13 rfl HSS.out ?_ ?_
          rotate_left
          · (intro U hU; clear hU; go_simp; try with_reducible rfl)
          try simp only [Act.put, List.setIfInBounds_toArray, List.set_cons_zero, List.set_cons_succ]
          refine hrN 14 rfl HSS.out ?_
          try simp only [Act.put, List.setIfInBounds_toArray, List.set_cons_zero, List.set_cons_succ]
          refine hrN 15 rfl HSS.out ?_
          try simp only [Act.put, List.setIfInBounds_toArray, List.set_cons_zero, List.set_cons_succ]
          refine hrN 16 rfl HSS.out ?_
          try simp only [Act.put, List.setIfInBounds_toArray, List.set_cons_zero, List.set_cons_succ]
          refine hrN 17 rfl HSS.out ?_
          try simp only [Act.put, List.setIfInBounds_toArray, List.set_cons_zero, List.set_cons_succ]
          refine hrN 18 rfl HSS.out ?_
          try simp only [Act.put, List.setIfInBounds_toArray, List.set_cons_zero, List.set_cons_succ]
          refine hrN 19 rfl HSS.out ?_
          try simp only [Act.put, List.setIfInBounds_toArray, List.set_cons_zero, List.set_cons_succ]
          refine hrN 20 rfl HSS.out ?_
          try simp only [Act.put, List.setIfInBounds_toArray, List.set_cons_zero, List.set_cons_succ]
          refine hrN 21 rfl HSS.out ?_
          try simp only [Act.put, List.setIfInBounds_toArray, List.set_cons_zero, List.set_cons_succ]
          refine hrN 22 rfl HSS.out ?_
          try simp only [Act.put, List.setIfInBounds_toArray, List.set_cons_zero, List.set_cons_succ]
          refine hrN 23 rfl HSS.out ?_
          try simp only [Act.put, List.setIfInBounds_toArray, List.set_cons_zero, List.set_cons_succ]
          refine hrT (v := ?_) 24 rfl HSS.out ?_ ?_
          rotate_left
          · (intro U hU; clear hU; go_simp; try with_reducible rfl)
          try simp only [Act.put, List.setIfInBounds_toArray, List.set_cons_zero, List.set_cons_succ]
          refine hrT (v := ?_) 25 rfl HSS.out ?_ ?_
          rotate_left
          · (intro U hU; clear hU; go_simp; try with_reducible rfl)
          try simp only [Act.put, List.setIfInBounds_toArray, List.set_cons_zero, List.set_cons_succ]
          refine hrT (v := ?_) 26 rfl HSS.out ?_ ?_
          rotate_left
          · (intro U hU; clear hU; go_simp; try with_reducible rfl)
          try simp only [Act.put, List.setIfInBounds_toArray, List.set_cons_zero, List.set_cons_succ]
          refine hrT (v := ?_) 27 rfl HSS.out ?_ ?_
          rotate_left
          · (intro U hU; rw [HSQ.out] at hU; obtain ⟨hU0, hU1, hU2, hU3, _, _⟩ := hU; clear hU3; go_simp; try with_reducible rfl)
          try simp only [Act.put, List.setIfInBounds_toArray, List.set_cons_zero, List.set_cons_succ]
          refine hrT (v := ?_) 28 rfl HSS.out ?_ ?_
          rotate_left
          · (intro U hU; clear hU; go_simp; try with_reducible rfl)
          try simp only [Act.put, List.setIfInBounds_toArray, List.set_cons_zero, List.set_cons_succ]
          refine hrT (v := ?_) 29 rfl HSS.out ?_ ?_
          rotate_left
          · (intro U hU; clear hU; go_simp; try with_reducible rfl)
          try simp only [Act.put, List.setIfInBounds_toArray, List.set_cons_zero, List.set_cons_succ]
          refine hrT (v := ?_) 30 rfl HSS.out ?_ ?_
          rotate_left
          · (intro U hU; clear hU; go_simp; try with_reducible rfl)
          try simp only [Act.put, List.setIfInBounds_toArray, List.set_cons_zero, List.set_cons_succ]
          refine hrT (v := (.agg ucs)) 31 rfl HSS.out (fun U hU => load_yields 57 (.tmp 171) rfl ⟨g, i * 20 + 1, none⟩ rfl (.agg ucs) (by rw [HSQ.out] at hU; exact hU.2.2.2.2.1)) ?_
          try simp only [Act.put, List.setIfInBounds_toArray, List.set_cons_zero, List.set_cons_succ]
          refine hrT (v := (.agg lcs)) 32 rfl HSS.out (fun U hU => load_yields 57 (.tmp 21) rfl ⟨wL.heap.size, 0, none⟩ rfl (.agg lcs) (by rw [HSQ.out] at hU; exact hU.2.2.2.2.2)) ?_
          try simp only [Act.put, List.setIfInBounds_toArray, List.set_cons_zero, List.set_cons_succ]
          refine wpAnyHR_one (i := 33) (by kernel_rfl) rfl ?_
          intro K33 hK33
          go_simp
          refine (callsIn_wide.2 (HSV.out _ (below_drew1 (Below.refl _ WE)))).mono ?_
          rintro e w2 ⟨rfl, hb2⟩
          have hb2 : Below WE.heap.size WE w2 := (below_drew1 (Below.refl _ WE)).trans hb2
          have HB2 := Lib.hid hb2
          have HSS := Lib.hid (HSA.out w2 hb2)
          clear hb2
          refine hK33 _ _ ⟨HSS.out, ?_⟩
          clear hK33 K33; try simp only [Act.put, List.setIfInBounds_toArray, List.set_cons_zero, List.set_cons_succ]
          refine hrT (v := ?_) 34 rfl HSS.out ?_ ?_
          rotate_left
          · (intro U hU; clear hU; go_simp; try with_reducible rfl)
          try simp only [Act.put, List.setIfInBounds_toArray, List.set_cons_zero, List.set_cons_succ]
          refine hrT (v := ?_) 35 rfl HSS.out ?_ ?_
          rotate_left
          · (intro U hU; clear hU; go_simp; try with_reducible rfl)
          try simp only [Act.put, List.setIfInBounds_toArray, List.set_cons_zero, List.set_cons_succ]
          refine wpAnyHR_done (by kernel_rfl) ?_ _
          refine noPan_normal ?_
          gi_wp2_with fail
          gi_meet
          exact ⟨rfl, HB2⟩
        · have hg1 : (0 : Int) < (i : Int) := by omega
          have hg2 : 0 < i := by omega
          have HI1 := Lib.hid hi1
          clear hi1
          obtain ⟨k0, hk0⟩ : ∃ k, ks[i - 1]? = some k := ⟨ks[i - 1]'(by have := HNK.out; omega), List.getElem?_eq_getElem (by have := HNK.out; omega)⟩
          have hbl : Op.bytesLess k0 uk = true := HKI.out (i - 1) k0 uk hk0 (by rw [show i - 1 + 1 = i by omega]; exact HKEY.out)
          obtain ⟨t1, ht1⟩ : ∃ t1 : ByteArray, strV k0 = .string t1 := ⟨_, rfl⟩
          obtain ⟨hlq, hlq2⟩ : Op.bytesLess tt.toList t1.toList = false ∧ ¬ tt.toList = t1.toList := by
            have e5 := ht1
            have e6 := HTT2.out
            unfold strV at e5 e6
            injection e5 with e5
            injection e6 with e6
            rw [← e5, ← e6, Lib.toList_data, Lib.toList_data]
            rw [bytesLess_eq] at hbl ⊢
            have hlt := of_decide_eq_true hbl
            exact ⟨decide_eq_false (List.lt_asymm hlt), fun e => List.lt_irrefl k0 (by have h9 : uk = k0 := e; rw [h9] at hlt; exact hlt)⟩
          have hlq3 : (tt.toList == t1.toList) = false := by rw [beq_eq_false_iff_ne]; exact hlq2
          have hw1 : wrap64 ((i : Int) - 1) = ((i - 1 : Nat) : Int) := by rw [IntWalk.wrap64_in _ (by have := HKN.out; omega)]; omega
          have hw2 : IntKind.i64.wrap ((i : Int) - 1) = ((i - 1 : Nat) : Int) := (IntWalk.i64_left _).trans hw1
          have hw3 : ((i - 1 : Nat) : Int) < (n : Int) := by omega
          have hw4 : (0 : Int) ≤ ((i - 1 : Nat) : Int) := by omega
          have hw5 : i - 1 < n := by omega
          have HK0 := Lib.hid (And.intro hk0 ht1)
          clear hbl hk0 ht1
          refine wpIn_noPan ?_
          refine wpIn_region_held SS (by kernel_rfl) ?_
          refine hrT (v := ?_) 0 rfl HSS.out ?_ ?_
          rotate_left
          · (intro U hU; rw [HSQ.out] at hU; obtain ⟨hU0, hU1, hU2, hU3, _, _⟩ := hU; have hU9 := (hU3 (i - 1) k0 (by omega) HK0.out.1).trans (congrArg some HK0.out.2); clear hU3; go_simp; try with_reducible rfl)
          try simp only [Act.put, List.setIfInBounds_toArray, List.set_cons_zero, List.set_cons_succ]
          refine hrT (v := ?_) 1 rfl HSS.out ?_ ?_
          rotate_left
          · (intro U hU; clear hU; go_simp; try with_reducible rfl)
          try simp only [Act.put, List.setIfInBounds_toArray, List.set_cons_zero, List.set_cons_succ]
          refine hrT (v := ?_) 2 rfl HSS.out ?_ ?_
          rotate_left
          · (intro U hU; clear hU; go_simp; try with_reducible rfl)
          try simp only [Act.put, List.setIfInBounds_toArray, List.set_cons_zero, List.set_cons_succ]
          refine hrT (v := ?_) 3 rfl HSS.out ?_ ?_
          rotate_left
          · (intro U hU; clear hU; go_simp; try with_reducible rfl)
          try simp only [Act.put, List.setIfInBounds_toArray, List.set_cons_zero, List.set_cons_succ]
          refine hrT (v := ?_) 4 rfl HSS.out ?_ ?_
          rotate_left
          · (intro U hU; rw [HSQ.out] at hU; obtain ⟨hU0, hU1, hU2, hU3, _, _⟩ := hU; have hU9 := (hU3 (i - 1) k0 (by omega) HK0.out.1).trans (congrArg some HK0.out.2); clear hU3; go_simp; try with_reducible rfl)
          try simp only [Act.put, List.setIfInBounds_toArray, List.set_cons_zero, List.set_cons_succ]
          refine hrT (v := ?_) 5 rfl HSS.out ?_ ?_
          rotate_left
          · (intro U hU; clear hU; go_simp; try with_reducible rfl)
          try simp only [Act.put, List.setIfInBounds_toArray, List.set_cons_zero, List.set_cons_succ]
          refine hrT (v := ?_) 6 rfl HSS.out ?_ ?_
          rotate_left
          · (intro U hU; clear hU; go_simp; try with_reducible rfl)
          try simp only [Act.put, List.setIfInBounds_toArray, List.set_cons_zero, List.set_cons_succ]
          refine hrT (v := ?_) 7 rfl HSS.out ?_ ?_
          rotate_left
          · (intro U hU; clear hU; go_simp; try with_reducible rfl)
          try simp only [Act.put, List.setIfInBounds_toArray, List.set_cons_zero, List.set_cons_succ]
          refine hrT (v := ?_) 8 rfl HSS.out ?_ ?_
          rotate_left
          · (intro U hU; rw [HSQ.out] at hU; obtain ⟨hU0, hU1, hU2, hU3, _, _⟩ := hU; have hU9 := (hU3 (i - 1) k0 (by omega) HK0.out.1).trans (congrArg some HK0.out.2); clear hU3; go_simp; try with_reducible rfl)
          try simp only [Act.put, List.setIfInBounds_toArray, List.set_cons_zero, List.set_cons_succ]
          refine hrT (v := ?_) 9 rfl HSS.out ?_ ?_
          rotate_left
          · (intro U hU; clear hU; go_simp; try with_reducible rfl)
          try simp only [Act.put, List.setIfInBounds_toArray, List.set_cons_zero, List.set_cons_succ]
          refine hrT (v := ?_) 10 rfl HSS.out ?_ ?_
          rotate_left
          · (intro U hU; clear hU; go_simp; try with_reducible rfl)
          try simp only [Act.put, List.setIfInBounds_toArray, List.set_cons_zero, List.set_cons_succ]
          refine hrT (v := ?_) 11 rfl HSS.out ?_ ?_
          rotate_left
          · (intro U hU; clear hU; go_simp; try with_reducible rfl)
          try simp only [Act.put, List.setIfInBounds_toArray, List.set_cons_zero, List.set_cons_succ]
          refine hrT (v := ?_) 12 rfl HSS.out ?_ ?_
          rotate_left
          · (intro U hU; clear hU; go_simp; try with_reducible rfl)
          try simp only [Act.put, List.setIfInBounds_toArray, List.set_cons_zero, List.set_cons_succ]
          refine hrT (v := ?_) 13 rfl HSS.out ?_ ?_
          rotate_left
          · (intro U hU; clear hU; go_simp; try with_reducible rfl)
          try simp only [Act.put, List.setIfInBounds_toArray, List.set_cons_zero, List.set_cons_succ]
          refine hrT (v := ?_) 14 rfl HSS.out ?_ ?_
          rotate_left
          · (intro U hU; clear hU; go_simp; try with_reducible rfl)
          try simp only [Act.put, List.setIfInBounds_toArray, List.set_cons_zero, List.set_cons_succ]
          refine hrT (v := ?_) 15 rfl HSS.out ?_ ?_
          rotate_left
          · (intro U hU; clear hU; go_simp; try with_reducible rfl)
          try simp only [Act.put, List.setIfInBounds_toArray, List.set_cons_zero, List.set_cons_succ]
          refine hrT (v := ?_) 16 rfl HSS.out ?_ ?_
          rotate_left
          · (intro U hU; clear hU; go_simp; try with_reducible rfl)
          try simp only [Act.put, List.setIfInBounds_toArray, List.set_cons_zero, List.set_cons_succ]
          refine hrT (v := ?_) 17 rfl HSS.out ?_ ?_
          rotate_left
          · (intro U hU; rw [HSQ.out] at hU; obtain ⟨hU0, hU1, hU2, hU3, _, _⟩ := hU; have hU9 := (hU3 (i - 1) k0 (by omega) HK0.out.1).trans (congrArg some HK0.out.2); clear hU3; go_simp; try with_reducible rfl)
          try simp only [Act.put, List.setIfInBounds_toArray, List.set_cons_zero, List.set_cons_succ]
          refine hrT (v := ?_) 18 rfl HSS.out ?_ ?_
          rotate_left
          · (intro U hU; clear hU; go_simp; try with_reducible rfl)
          try simp only [Act.put, List.setIfInBounds_toArray, List.set_cons_zero, List.set_cons_succ]
          refine hrT (v := ?_) 19 rfl HSS.out ?_ ?_
          rotate_left
          · (intro U hU; clear hU; go_simp; try with_reducible rfl)
          try simp only [Act.put, List.setIfInBounds_toArray, List.set_cons_zero, List.set_cons_succ]
          refine hrT (v := ?_) 20 rfl HSS.out ?_ ?_
          rotate_left
          · (intro U hU; clear hU; go_simp; try with_reducible rfl)
          try simp only [Act.put, List.setIfInBounds_toArray, List.set_cons_zero, List.set_cons_succ]
          refine hrT (v := ?_) 21 rfl HSS.out ?_ ?_
          rotate_left
          · (intro U hU; clear hU; go_simp; try with_reducible rfl)
          try simp only [Act.put, List.setIfInBounds_toArray, List.set_cons_zero, List.set_cons_succ]
          refine hrT (v := ?_) 22 rfl HSS.out ?_ ?_
          rotate_left
          · (intro U hU; rw [HSQ.out] at hU; obtain ⟨hU0, hU1, hU2, hU3, _, _⟩ := hU; have hU9 := (hU3 (i - 1) k0 (by omega) HK0.out.1).trans (congrArg some HK0.out.2); clear hU3; go_simp; try with_reducible rfl)
          try simp only [Act.put, List.setIfInBounds_toArray, List.set_cons_zero, List.set_cons_succ]
          refine hrT (v := ?_) 23 rfl HSS.out ?_ ?_
          rotate_left
          · (intro U hU; clear hU; go_simp; try with_reducible rfl)
          try simp only [Act.put, List.setIfInBounds_toArray, List.set_cons_zero, List.set_cons_succ]
          refine hrT (v := ?_) 24 rfl HSS.out ?_ ?_
          rotate_left
          · (intro U hU; clear hU; go_simp; try with_reducible rfl)
          try simp only [Act.put, List.setIfInBounds_toArray, List.set_cons_zero, List.set_cons_succ]
          refine hrT (v := ?_) 25 rfl HSS.out ?_ ?_
          rotate_left
          · (intro U hU; clear hU; go_simp; try with_reducible rfl)
          try simp only [Act.put, List.setIfInBounds_toArray, List.set_cons_zero, List.set_cons_succ]
          refine hrT (v := ?_) 26 rfl HSS.out ?_ ?_
          rotate_left
          · (intro U hU; clear hU; go_simp; try with_reducible rfl)
          try simp only [Act.put, List.setIfInBounds_toArray, List.set_cons_zero, List.set_cons_succ]
          refine hrT (v := ?_) 27 rfl HSS.out ?_ ?_
          rotate_left
          · (intro U hU; rw [HSQ.out] at hU; obtain ⟨hU0, hU1, hU2, hU3, _, _⟩ := hU; have hU9 := (hU3 (i - 1) k0 (by omega) HK0.out.1).trans (congrArg some HK0.out.2); clear hU3; go_simp; try with_reducible rfl)
          try simp only [Act.put, List.setIfInBounds_toArray, List.set_cons_zero, List.set_cons_succ]
          refine hrT (v := ?_) 28 rfl HSS.out ?_ ?_
          rotate_left
          · (intro U hU; clear hU; go_simp; try with_reducible rfl)
          try simp only [Act.put, List.setIfInBounds_toArray, List.set_cons_zero, List.set_cons_succ]
          refine hrT (v := ?_) 29 rfl HSS.out ?_ ?_
          rotate_left
          · (intro U hU; clear hU; go_simp; try with_reducible rfl)
          try simp only [Act.put, List.setIfInBounds_toArray, List.set_cons_zero, List.set_cons_succ]
          refine hrT (v := ?_) 30 rfl HSS.out ?_ ?_
          rotate_left
          · (intro U hU; clear hU; go_simp; try with_reducible rfl)
          try simp only [Act.put, List.setIfInBounds_toArray, List.set_cons_zero, List.set_cons_succ]
          refine hrT (v := (.agg ucs)) 31 rfl HSS.out (fun U hU => load_yields 57 (.tmp 171) rfl ⟨g, i * 20 + 1, none⟩ rfl (.agg ucs) (by rw [HSQ.out] at hU; exact hU.2.2.2.2.1)) ?_
          try simp only [Act.put, List.setIfInBounds_toArray, List.set_cons_zero, List.set_cons_succ]
          refine hrT (v := (.agg lcs)) 32 rfl HSS.out (fun U hU => load_yields 57 (.tmp 21) rfl ⟨wL.heap.size, 0, none⟩ rfl (.agg lcs) (by rw [HSQ.out] at hU; exact hU.2.2.2.2.2)) ?_
          try simp only [Act.put, List.setIfInBounds_toArray, List.set_cons_zero, List.set_cons_succ]
          refine wpAnyHR_one (i := 33) (by kernel_rfl) rfl ?_
          intro K33 hK33
          go_simp
          refine (callsIn_wide.2 (HSV.out _ (below_drew1 (Below.refl _ WE)))).mono ?_
          rintro e w2 ⟨rfl, hb2⟩
          have hb2 : Below WE.heap.size WE w2 := (below_drew1 (Below.refl _ WE)).trans hb2
          have HB2 := Lib.hid hb2
          have HSS := Lib.hid (HSA.out w2 hb2)
          clear hb2
          refine hK33 _ _ ⟨HSS.out, ?_⟩
          clear hK33 K33; try simp only [Act.put, List.setIfInBounds_toArray, List.set_cons_zero, List.set_cons_succ]
          refine hrT (v := ?_) 34 rfl HSS.out ?_ ?_
          rotate_left
          · (intro U hU; clear hU; go_simp; try with_reducible rfl)
          try simp only [Act.put, List.setIfInBounds_toArray, List.set_cons_zero, List.set_cons_succ]
          refine hrT (v := ?_) 35 rfl HSS.out ?_ ?_
          rotate_left
          · (intro U hU; clear hU; go_simp; try with_reducible rfl)
          try simp only [Act.put, List.setIfInBounds_toArray, List.set_cons_zero, List.set_cons_succ]
          refine wpAnyHR_done (by kernel_rfl) ?_ _
          refine noPan_normal ?_
          gi_wp2_with fail
          gi_meet
          exact ⟨rfl, HB2⟩
      case rest =>
      obtain ⟨W7, rfl⟩ : ∃ x, x = wc := ⟨_, rfl⟩
      obtain ⟨rfl, HB7⟩ := hcut
      have HKL7 := Lib.hid (HKL2.out.below HB7.out HKL2.out.lt)
      have HKG7 := Lib.hid (HKG.out.below HB7.out HKG.out.lt)
      gi_upto_region 36 with fail
      gi_cut [220] from 250 (fun s220 wx => s220 = .bool false ∧ wx = W7)
      case first =>
        rcases HCS.out with ⟨h, s1, s2, hs8, e1, e2⟩ | ⟨h, s2, hs8, e1, e2⟩ | ⟨k, e, hk, e1, e2⟩
        · have hx1 := HKL7.out
          have hx2 := HKG7.out
          rw [e1] at hx1
          rw [e2] at hx2
          have c1 := hx1.cell 0
          have c2 := hx2.cell 0
          rw [seenV_0] at c1 c2
          have hl1 := load_hd_inV hx1 hs8
          have hl2 := load_hd_inV hx2 hs8
          have HNQ : ∀ W : World, (binOp .neq 28 (hdV h) (hdV h)).run Tryz.prog W = .ok (.bool false) W := fun W => by rw [hd_neql h h hs8 hs8 W, hdEq_self]; rfl
          have hgd : Tryz.prog.eqGuardType Tryz.prog.depth 28 = false := by kernel_rfl
          unfold hdV at hl1 hl2 HNQ
          generalize hdCells h = HC at hl1 hl2 HNQ
          clear e1 e2 hx1 hx2 hs8
          gi_wp2_with (first
            | (refine wpListIn_load_if 28 _ rfl (by rfl) ⟨wG.heap.size, 1, none⟩ rfl (.agg HC) hl2 ?_)
            | (refine wpListIn_load_if 28 _ rfl (by rfl) ⟨wL.heap.size, 1, none⟩ rfl (.agg HC) hl1 ?_)
            | fail)
          gi_meet
          exact ⟨rfl, rfl⟩
        · have hx1 := HKL7.out
          have hx2 := HKG7.out
          rw [e1] at hx1
          rw [e2] at hx2
          have c1 : W7.cell? ⟨wL.heap.size, 0, none⟩ = some (.int .i64 3) := hx1.cell 0
          have c2 := hx2.cell 0
          rw [seenV_0] at c2
          clear e1 e2 hx1 hx2 hs8
          gi_wp2_with fail
          gi_meet
          exact ⟨rfl, rfl⟩
        · have hx1 := HKL7.out
          have hx2 := HKG7.out
          rw [e1] at hx1
          rw [e2] at hx2
          have c1 : W7.cell? ⟨wL.heap.size, 0, none⟩ = some (.int .i64 k) := hx1.cell 0
          have c2 : W7.cell? ⟨wG.heap.size, 0, none⟩ = some (.int .i64 k) := hx2.cell 0
          clear e1 e2 hx1 hx2
          rcases hk with rfl | rfl | rfl
          · gi_wp2_with fail
            gi_meet
            exact ⟨rfl, rfl⟩
          · gi_wp2_with fail
            gi_meet
            exact ⟨rfl, rfl⟩
          · gi_wp2_with fail
            gi_meet
            exact ⟨rfl, rfl⟩
      case rest =>
      obtain ⟨rfl, rfl⟩ := hcut
      gi_wp2_with fail
      go_roundw
      case rel =>
        exact ⟨i + 1, hlt, by rw [HWI.out]; rfl, ⟨t' + 2, by have := HTT.out; omega, HDE.out.below HB7.out⟩, HT.out.trans ((HTE.out.trans (Touch.of_below HB7.out)).mono fun k _ h => .inl h)⟩
      case measure => rw [HWI.out]; simp [intOf]; omega
    · obtain rfl : i = n := by omega
      have hnl : ¬ (i : Int) < (i : Int) := by omega
      have hnl2 : ¬ i < i := by omega
      have HP := Lib.hid hu.1
      have HH := Lib.hid hu.2.1
      have hL := load_head HH.out HCW.out
      have z2 := HP.out.cell 2
      have hWK := HR.out.walked t' (by have := HTT.out; have := HKN.out; omega) wr HWD.out (fun k hk => by have := HF3.out k hk; have := HAD2.out; have := HT.out.size; have := HZ6.out; omega) want HST.out most (nf : Int)
      rw [HKS.out] at hWK
      unfold hdV at hWK
      rw [← HCE.out] at hWK
      have HWK := Lib.hid hWK
      have HUR := Lib.hid hu
      clear hWK hu hlt hi
      gi_wp2_with (first
        | (refine wpListIn_load_at rfl 28 _ rfl ⟨w.heap.size + 1, 0, none⟩ rfl (.agg CW) hL ?_)
        | fail)
      refine (callsIn_wide.2 HWK.out).mono ?_
      clear HWK hL z2 cO
      rintro e wF ⟨sv, us2, rfl, hoa2, hto2, hle2, hns2, hor2, hdF, htF⟩
      obtain ⟨g2, ac2, A2, rfl, hA2, hnc2, hrow2, hbg2⟩ := pairRow_of hoa2 rfl hto2.size
      rw [HNK.out] at hle2 hor2
      obtain ⟨m, hm, hmc⟩ : ∃ m : Nat, us2.length = m ∧ m ≤ i ∧ ((0 ≤ most ∧ most < (i : Int) ∧ (m : Int) = most + 1) ∨ (¬ (0 ≤ most ∧ most < (i : Int)) ∧ m = i)) := by
        refine ⟨us2.length, rfl, hle2, ?_⟩
        have hkn := HKN.out.1
        by_cases hc : 0 ≤ most ∧ most < (i : Int)
        · refine .inl ⟨hc.1, hc.2, ?_⟩
          have hj : ¬ (most.toNat + 1 < us2.length) := fun hl => hns2 (most.toNat + 1) (by omega) hl (.inl ⟨hc.1, by omega⟩)
          rcases hor2 with h | ⟨h0, h | h⟩ <;> omega
        · refine .inr ⟨hc, ?_⟩
          rcases hor2 with h | ⟨h0, h | h⟩
          · exact h
          · exact absurd ⟨h.1, by omega⟩ hc
          · omega
      have HuF := Lib.hid (HU2.out wF (HT.out.trans (htF.mono fun k _ h => .inl h)))
      have cO := HuF.out.2.2.2.1.cell 0
      have HTF : Hid (Touch F U2 wF) := Lib.hid (HT.out.trans (htF.mono fun k _ h => .inl h))
      have HSP : Hid (∀ Wz, Wz = wF → Calls Tryz.prog 27 #[.slice A2 m ac2, .slice A m ac] Wz fun e w' => e = .returned (.bool true) ∧ Below wF.heap.size wF w') := Lib.hid fun Wz e => by
        rw [e]
        have hul := HUL.out
        refine samepairs_yes g2 g A2 A m ac2 ac us2 us (fun h => hA2 (by omega)) (fun h => HA.out (by omega)) (by omega) (by omega) (by have := HKN.out; omega) wF hrow2 HuF.out.2.2.2.2.1 fun j p1 p2 hj h1 h2 => ?_
        obtain ⟨q1, q2, q3⟩ := hto2 j p1 h1
        obtain ⟨o1, o2, o3⟩ := HuF.out.2.2.2.2.2.1 j p2 h2
        have ek : p1.1 = p2.1 := by rw [q1] at o1; injection o1
        refine ⟨ek, ?_⟩
        rw [← ek] at o3
        exact sameV_of q3 o3
      rw [hm]
      have HMC := Lib.hid hmc
      have hmac : m ≤ ac := by have := hmc.1; omega
      clear hm hns2 hor2 hle2 hoa2 hto2 hA2 hnc2 hrow2 hbg2 hdF htF hmc
      have hm0 : (0 : Int) ≤ (m : Int) := Int.natCast_nonneg _
      have hma : (m : Int) ≤ (ac : Int) := by omega
      have hmi : ¬ (i : Int) < (m : Int) := by have := HMC.out.1; omega
      have hmi2 : ¬ i < m := by have := HMC.out.1; omega
      have hcase : (0 ≤ most ∧ most < (i : Int) ∧ (m : Int) = most + 1) ∨ (0 ≤ most ∧ ¬ most < (i : Int) ∧ m = i) ∨ (¬ 0 ≤ most ∧ m = i) := by have := HMC.out.2; omega
      rcases hcase with ⟨c1, c2, c3⟩ | ⟨c1, c2, c3⟩ | ⟨c1, c3⟩
      case' inl =>
        have hm1 : wrap64 (most + 1) = (m : Int) := by rw [c3]; exact IntWalk.wrap64_in _ (by have := HMO.out; have := HKN.out; omega)
        clear c3
      case' inr.inl => subst c3
      case' inr.inr => subst c3
      all_goals
        gi_wp2_with (first
          | (gi_at_call 27; refine (callsIn_wide.2 (HSP.out _ rfl)).mono ?_; rintro e w8 ⟨rfl, hb8⟩; have HB8 := Lib.hid hb8; have hk8 := HuF.out.2.2.1.below hb8 HuF.out.2.2.1.lt; have HK8 := Lib.hid hk8; have z8 := hk8.cell 0; have f8 := hk8.frozen 0; clear hb8 hk8)
          | fail)
        obtain ⟨d1, d2⟩ := HDF2.out wF HTF.out
        have hl1 : r1 < wF.heap.size := (Array.getElem?_eq_some_iff.1 d1).1
        have hl2 : r2 < wF.heap.size := (Array.getElem?_eq_some_iff.1 d2).1
        have hn1 := blk_ne_obj HuF.out.2.2.1 d1 rfl
        have hn2 := blk_ne_obj HuF.out.2.2.1 d2 rfl
        have hbw : Below w.heap.size w (w8.setCell ⟨w.heap.size + 1 + 1, 0, none⟩ (.bool true)) := ((HBW2.out.trans (HTF.out.below (by have := HBW2.out.size; omega) fun k hk => by have := HF.out k hk; omega)).trans (HB8.out.mono (by have := HBW2.out.size; have := HTF.out.size; omega))).setCell (p := ⟨w.heap.size + 1 + 1, 0, none⟩) (by show w.heap.size ≤ w.heap.size + 1 + 1; omega) _
        have hz9 : (w8.setCell ⟨w.heap.size + 1 + 1, 0, none⟩ (.bool true)).cell? ⟨w.heap.size + 1 + 1, 0, none⟩ = some (.bool true) := (HK8.out.set_ 0 (.bool true)).cell 0
        have e2 : (w8.setCell ⟨w.heap.size + 1 + 1, 0, none⟩ (.bool true)).heap[r2]? = some (.deferred (some [])) := (Below.heap_setCell w8 ⟨w.heap.size + 1 + 1, 0, none⟩ _ r2 (fun e => hn2 e.symm)).trans ((HB8.out.block r2 hl2).trans d2)
        have e1 : (w8.setCell ⟨w.heap.size + 1 + 1, 0, none⟩ (.bool true)).heap[r1]? = some (.deferred (some [])) := (Below.heap_setCell w8 ⟨w.heap.size + 1 + 1, 0, none⟩ _ r1 (fun e => hn1 e.symm)).trans ((HB8.out.block r1 hl1).trans d1)
        generalize w8.setCell ⟨w.heap.size + 1 + 1, 0, none⟩ (.bool true) = Wy at hbw hz9 e2 e1 ⊢
        have e1' : (Wy.putObj r2 (.deferred none)).heap[r1]? = some (.deferred (some [])) := (World.putObj_heap_other HRL2.out.2).trans e1
        have hzz : ((Wy.putObj r2 (.deferred none)).putObj r1 (.deferred none)).cell? ⟨w.heap.size + 1 + 1, 0, none⟩ = some (.bool true) := by
          rw [World.cell?_of_block (World.putObj_heap_other hn1), World.cell?_of_block (World.putObj_heap_other hn2)]
          exact hz9
        have hbz : Below w.heap.size w ((Wy.putObj r2 (.deferred none)).putObj r1 (.deferred none)) :=
          (Touch.put_ (G := fun k => w.heap.size ≤ k) (Touch.put_ (Touch.of_below hbw) HRL2.out.1 _) HRL1.out.1 _).below (Nat.le_refl _) fun _ h => h
        refine ⟨by simp, .inl ⟨_, _, rfl, run_takeDeferred e2, ?_⟩⟩
        refine ⟨by simp, .inl ⟨_, _, rfl, run_takeDeferred e1', ?_⟩⟩
        generalize (Wy.putObj r2 (.deferred none)).putObj r1 (.deferred none) = Wz at hzz hbz ⊢
        refine ⟨.bool true, ?_, rfl, hbz⟩
        simp only [results, Tryz.results4]
        go_simp
end Go.Proofs.YtcbebefdbdppdaaGreat
namespace Go.Proofs.YtcbebefdbdppdaaGreat
open Go.RowKit Go.Maps
attribute [local go_sem] Oper.semAt_some
theorem below_put {B r : Nat} {w V : World} (h : Below B w V) (hr : B ≤ r) (o : Obj) : Below B w (V.putObj r o) :=
  ⟨h.os, h.tape, h.output, by rw [World.putObj_size]; exact h.size, fun k hk => (World.putObj_heap_other (by omega)).trans (h.block k hk)⟩
theorem each_nil (w : World) : Calls Tryz.prog 78 #[.nilIface] w fun e w' => e = .returned (.func (.func 140) #[] #[.pointer (some ⟨w.heap.size, 0, none⟩)]) ∧ w' = w.alloc (.cells #[.nilIface] 72) := by
  go_enter Tryz.func78, Tryz.ntmps78
  go_wp2
  go_ret
  exact ⟨rfl, rfl⟩
theorem all_nil (want : Hd) (w : World) : Calls Tryz.prog 25 #[.nilIface, hdV want] w fun e w' =>
    e = .returned (.func (.func 77) #[] #[.pointer (some ⟨w.heap.size, 0, none⟩), .pointer (some ⟨w.heap.size + 1, 0, none⟩)]) ∧ w' = (w.alloc (.cells #[.nilIface] 72)).alloc (.cells (hdCells want) 28) := by
  unfold hdV
  generalize hdCells want = CW
  go_enter Tryz.func25, Tryz.ntmps25
  go_wp2
  go_ret
  exact ⟨rfl, rfl⟩
set_option maxRecDepth 100000 in
theorem each1_nil (n l B0 : Nat) (W : World) (hbox : W.cell? ⟨B0, 0, none⟩ = some .nilIface) :
    CallsIn Fence.wide n Tryz.prog 140 #[.func (.yield l) #[] #[], .pointer (some ⟨B0, 0, none⟩)] W fun e W' => (∃ v, e = .returned v) ∧ W' = W := by
  have hdd : ∀ k : Nat, (Fence.wide.depth.isSome = true → 1 ≤ k) := fun k h => by cases h
  have hdn : Fence.wide.depth = none := rfl
  have hf1 : Fence.wide.fn 23 := trivial
  refine callsIn_of_wp Tryz.func140 rfl trivial ?_ rfl
  simp only [Tryz.ntmps140, List.size_toArray, List.length_cons, List.length_nil, Nat.reduceAdd, Nat.reduceSub, Array.replicate_succ, Array.replicate_zero, List.push_toArray, List.append_toArray, List.nil_append, List.cons_append]
  gi_wp2_with ((try refine ⟨hdd _, ?_⟩); gi_at_call 23; refine (callsIn_wide.2 (keys_nil _)).mono ?_; rintro e W1 ⟨rfl, rfl⟩)
  refine wpIn_loop_rounds 1 ?_
  rw [roundsIn_succ]
  gi_wp2_with fail
  go_end0
  exact ⟨⟨_, rfl⟩, rfl⟩
set_option maxRecDepth 100000 in
set_option maxHeartbeats 4000000 in
theorem all1_nil (n l B0 : Nat) (B1v : Value) (W : World) (hb0 : Blk W B0 72 #[.nilIface]) :
    CallsIn Fence.wide n Tryz.prog 77 #[.func (.yield l) #[] #[], .pointer (some ⟨B0, 0, none⟩), B1v] W fun e W' => (∃ v, e = .returned v) ∧ Below W.heap.size W W' := by
  have hdd : ∀ k : Nat, (Fence.wide.depth.isSome = true → 1 ≤ k) := fun k h => by cases h
  have hdn : Fence.wide.depth = none := rfl
  have hf1 : Fence.wide.fn 78 := trivial
  have hc0 := hb0.cell 0
  have HB0 := Lib.hid hb0
  have hb0l := hb0.lt
  clear hb0
  refine callsIn_of_wp_marks Tryz.func77 rfl trivial ?_ rfl
  simp only [Tryz.ntmps77, List.size_toArray, List.length_cons, List.length_nil, Nat.reduceAdd, Nat.reduceSub, Array.replicate_succ, Array.replicate_zero, List.push_toArray, List.append_toArray, List.nil_append, List.cons_append]
  gi_wp2_with ((try refine ⟨hdd _, ?_⟩); gi_at_call 78; refine (callsIn_wide.2 (each_nil _)).mono ?_; rintro e W1 ⟨rfl, rfl⟩)
  obtain ⟨Wb, hWb⟩ : ∃ Wb, Wb = (W.alloc (.cells #[.func (.yield l) #[] #[]] 166)).alloc (.cells #[.nilIface] 72) := ⟨_, rfl⟩
  have HBB : Hid (Below W.heap.size W Wb) := Lib.hid (by rw [hWb]; exact ((Below.refl _ W).alloc (Nat.le_refl _) _).alloc (by rw [alloc_size]; omega) _)
  have HDB : Hid (Blk Wb (W.heap.size + 1) 72 #[.nilIface]) := Lib.hid (by rw [hWb]; exact blk_last _ _ _ _ (by rw [alloc_size]))
  rw [← hWb]
  clear hWb hc0
  refine rangeFunc_any (α := Unit) (Q := _) (w := Wb) rfl (hdd _) (gf := 140) (lb := #[.pointer (some ⟨W.heap.size + 1, 0, none⟩)]) rfl trivial (enters_of Tryz.func140 (by kernel_rfl) rfl) (fun _ => #[.nilIface]) (fun _ => rfl)
    (fun _ _ => False) (fun _ _ => False) (fun _ _ _ => False) (fun V => Below Wb.heap.size Wb V) (fun V => Below Wb.heap.size Wb V) (fun _ _ => False)
    ?hseq (fun _ _ _ _ _ _ _ _ _ h => h) (fun _ _ _ _ _ _ _ _ _ _ h => h) (fun V r o o' h1 h2 h3 h4 h5 => below_put h5 h1 o') (fun _ _ _ _ _ _ _ _ _ h => h) (fun o1 o2 => ((Below.refl _ Wb).alloc (Nat.le_refl _) _).alloc (by rw [alloc_size]; omega) _)
    (fun _ _ _ => False) (fun _ _ _ _ _ _ _ _ _ _ h => h) (fun _ _ _ _ h => h.elim) (fun _ _ _ _ h => h.elim) ?hdone (fun _ _ h => h.elim)
  case hseq =>
    intro l' K Kx hK hKx hround V hV hI0 hKV
    refine CallsIn.mono (each1_nil (n - 1) l' (W.heap.size + 1) V ((HDB.out.below hI0 HDB.out.lt).cell 0)) ?_
    rintro e V2 ⟨hv, rfl⟩
    exact ⟨hv, .inl ⟨hI0, hKV⟩⟩
  case hdone =>
    intro V hm hd
    have HM := Lib.hid hm
    clear hm
    gi_wp2
    refine ⟨by simp, .inl ⟨_, _, rfl, run_takeDeferred hd, ?_⟩⟩
    exact ⟨_, results_none rfl _ _ _, ⟨_, rfl⟩, below_put (HBB.out.trans (HM.out.mono HBB.out.size)) HBB.out.size _⟩
set_option maxRecDepth 100000 in
set_option maxHeartbeats 4000000 in
theorem walked_nil (w : World) (st : Hd) (hst : st.st.length = 8) (most limit : Int) :
    Calls Tryz.prog 24 #[.nilIface, hdV st, .int .i64 most, .int .i64 limit] w fun e w' => e = .returned (.slice none 0 0) ∧ Below w.heap.size w w' := by
  have HALL := Lib.hid fun (W : World) => all_nil st W
  have HCW : Hid ((hdCells st).size = 16) := Lib.hid (hdCells_size hst)
  unfold hdV at HALL ⊢
  generalize hdCells st = CW at HALL HCW ⊢
  have hdd : ∀ k : Nat, (Fence.wide.depth.isSome = true → 1 ≤ k) := fun k h => by cases h
  have hdn : Fence.wide.depth = none := rfl
  have hf1 : Fence.wide.fn 25 := trivial
  have hL1 : ∀ o1 o2 o3 : Obj, (loadVar 28 ⟨w.heap.size, 0, none⟩).run Tryz.prog ((((w.alloc (.cells CW 28)).alloc o1).alloc o2).alloc o3) = .ok (.agg CW) ((((w.alloc (.cells CW 28)).alloc o1).alloc o2).alloc o3) := fun o1 o2 o3 => load_head ((((Blk.new w _ _).alloc _).alloc _).alloc _) HCW.out
  have hFN : ∀ (f : Fn) (caps : Array Value) (W : World), (binOp .eql 79 (.func f #[] caps) .nilFunc).run Tryz.prog W = .ok (.bool false) W := fun _ _ _ => by kernel_rfl
  refine callsIn_wide.1 (callsIn_of_wp_marks (n := 0) Tryz.func24 rfl trivial ?_ rfl)
  simp only [Tryz.ntmps24, List.size_toArray, List.length_cons, List.length_nil, Nat.reduceAdd, Nat.reduceSub, Array.replicate_succ, Array.replicate_zero, List.push_toArray, List.append_toArray, List.nil_append, List.cons_append]
  gi_wp2_with (first
    | (refine wpListIn_load_at rfl 28 _ rfl ⟨w.heap.size, 0, none⟩ rfl (.agg CW) (hL1 _ _ _) ?_)
    | ((try refine ⟨hdd _, ?_⟩); gi_at_call 25; refine (callsIn_wide.2 (HALL.out _)).mono ?_; rintro e W1 ⟨rfl, rfl⟩))
  obtain ⟨Wb, hWb⟩ : ∃ Wb, Wb = (((((w.alloc (.cells CW 28)).alloc (.cells #[.int .i64 most] 3)).alloc (.cells #[.int .i64 limit] 3)).alloc (.cells #[.slice none 0 0] 76)).alloc (.cells #[.nilIface] 72)).alloc (.cells CW 28) := ⟨_, rfl⟩
  have HBB : Hid (Below w.heap.size w Wb) := Lib.hid (by
    rw [hWb]
    exact ((((((Below.refl _ w).alloc (Nat.le_refl _) _).alloc (by simp only [alloc_size]; omega) _).alloc (by simp only [alloc_size]; omega) _).alloc (by simp only [alloc_size]; omega) _).alloc (by simp only [alloc_size]; omega) _).alloc (by simp only [alloc_size]; omega) _)
  have HOU : Hid (Blk Wb (w.heap.size + 1 + 1 + 1) 76 #[.slice none 0 0]) := Lib.hid (by rw [hWb]; exact ((blk_last _ _ _ _ (by simp only [alloc_size])).alloc _).alloc _)
  have HD0 : Hid (Blk Wb (w.heap.size + 1 + 1 + 1 + 1) 72 #[.nilIface]) := Lib.hid (by rw [hWb]; exact (blk_last _ _ _ _ (by simp only [alloc_size])).alloc _)
  rw [← hWb]
  clear hWb hL1 hFN
  refine rangeFunc_any (α := Unit) (Q := _) (w := Wb) rfl (hdd _) (gf := 77) (lb := #[.pointer (some ⟨w.heap.size + 1 + 1 + 1 + 1, 0, none⟩), .pointer (some ⟨w.heap.size + 1 + 1 + 1 + 1 + 1, 0, none⟩)]) rfl trivial (enters_of Tryz.func77 (by kernel_rfl) rfl) (fun _ => #[.nilIface, .nilIface]) (fun _ => rfl)
    (fun _ _ => False) (fun _ _ => False) (fun _ _ _ => False) (fun V => Below Wb.heap.size Wb V ∧ Wb.heap.size + 2 ≤ V.heap.size) (fun V => Below Wb.heap.size Wb V) (fun _ _ => False)
    ?hseq (fun _ _ _ _ _ _ _ _ _ h => h) (fun _ _ _ _ _ _ _ _ _ _ h => h) (fun V r o o' h1 h2 h3 h4 h5 => below_put h5 h1 o') (fun _ _ _ _ _ _ _ _ _ h => h) (fun o1 o2 => ⟨((Below.refl _ Wb).alloc (Nat.le_refl _) _).alloc (by rw [alloc_size]; omega) _, by rw [alloc_size, alloc_size]; exact Nat.le_refl _⟩)
    (fun _ _ _ => False) (fun _ _ _ _ _ _ _ _ _ _ h => h) (fun _ _ _ _ h => h.elim) (fun _ _ _ _ h => h.elim) ?hdone (fun _ _ h => h.elim)
  case hseq =>
    rintro l' K Kx hK hKx hround V hV ⟨hI0, hI2⟩ hKV
    refine CallsIn.mono (all1_nil (0 - 1) l' (w.heap.size + 1 + 1 + 1 + 1) _ V (HD0.out.below hI0 HD0.out.lt)) ?_
    rintro e V2 ⟨hv, hb⟩
    exact ⟨hv, .inl ⟨hI0.trans (hb.mono hI0.size), hK V V2 (fun k h1 h2 => hb.block k (by omega)) hKV⟩⟩
  case hdone =>
    intro V hm hd
    have HM := Lib.hid hm
    have HO := Lib.hid (HOU.out.below hm HOU.out.lt)
    have hcO := HO.out.cell 0
    clear hm
    gi_wp2
    refine ⟨by simp, .inl ⟨_, _, rfl, run_takeDeferred hd, ?_⟩⟩
    exact ⟨_, results_tmp rfl _ _ _, rfl, below_put (HBB.out.trans (HM.out.mono HBB.out.size)) HBB.out.size _⟩
end Go.Proofs.YtcbebefdbdppdaaGreat

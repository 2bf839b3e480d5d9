/- The document's directory behind a change; a change of the document's drive.; The document's drive, walked: its calls that make changes.; The document's drive, walked: Create, Remove, Rename, SyncDir, Wipe, Pending. -/
import Derived.Test.YtdmcjomcbhdcbaaGreatM14
import Derived.Deep.RegionHeld3
namespace Go.Proofs.YtdmcjomcbhdcbaaGreat
open Go.RowKit Go.Maps

theorem chg_pair {w : World} {n c : Nat} {a : Option Addr} {l : List Stp} (h : w.ownsRow 0 153 2 (.slice a n c) n (chgEnts l)) {k : Nat} {x : Stp} (hk : l[k]? = some x) (hn : l.length = n) :
    ∃ b, a = some ⟨b, 0, none⟩ ∧ b < w.heap.size ∧ w.cell? ⟨b, k * 2, none⟩ = some (strV x.1) ∧ w.cell? ⟨b, k * 2 + 1, none⟩ = some (intZ (numI x.2)) := row_pair h hk hn

set_option maxRecDepth 100000 in
set_option maxHeartbeats 2000000 in
theorem made_any (D : Dir) (l : List Ent) (hE : Ents D l) (hT : Tidy D) (v : Value) (n : Nat) (c : List Stp) (cv : Value) (m : Nat) (w : World) (hn : l.length = n) (hrow : w.ownsRow 0 153 2 v n (entCells l)) (hm : c.length = m)
    (hc : w.ownsRow 0 153 2 cv m (chgEnts c)) (hb : n + m ≤ 2199023255552) (hok : ∀ s ∈ c, ∀ i, s.2 = some i → i ≤ 2199023255552) :
    Calls Tryz.prog 125 #[v, cv] w fun e w' => ∃ v' l', e = .returned v' ∧ Ents (applyC D c) l' ∧ w'.ownsRow 0 153 2 v' l'.length (entCells l') ∧ l'.length ≤ n + m ∧ Below w.heap.size w w' ∧ (v' = v ∨ ∀ k, v'.ownBlock = some k → w.heap.size ≤ k) := by
  obtain ⟨ac, cc, rfl, _⟩ := own_shape hc
  have HE := Lib.hid hE
  have HT := Lib.hid hT
  have HN := Lib.hid hn
  have HM := Lib.hid hm
  have HR := Lib.hid hrow
  have HC := Lib.hid hc
  have HOK := Lib.hid hok
  obtain ⟨v0, hv0⟩ : ∃ v0, v0 = v := ⟨_, rfl⟩
  have HV0 := Lib.hid hv0
  rw [← hv0]
  clear hE hT hn hm hrow hc hok hv0
  go_enter Tryz.func125, Tryz.ntmps125
  go_wp2
  go_loopw [0, 5] (fun d i wr => ∃ (k : Nat) (dl : List Ent), k ≤ m ∧ i = .int .i64 k ∧ Ents (applyC D (c.take k)) dl ∧ wr.ownsRow 0 153 2 d dl.length (entCells dl) ∧ dl.length ≤ n + k ∧ Below w.heap.size w wr ∧ Hid (d = v ∨ ∀ k, d.ownBlock = some k → w.heap.size ≤ k)) (fun _ i _ => m - (intOf i).toNat)
  case atStart => exact ⟨0, l, Nat.zero_le _, rfl, HE.out, by rw [HN.out, HV0.out]; exact HR.out, by rw [HN.out]; omega, Below.refl _ _, Lib.hid (.inl HV0.out)⟩
  case round =>
    obtain ⟨k, dl, hk, rfl, hents, hown, hlen, hbel, HV⟩ := hrel
    have hsz : w.heap.size ≤ wr.heap.size := hbel.size
    obtain ⟨ad, cd, rfl, _⟩ := own_shape hown
    by_cases hlt : k < m
    · obtain ⟨⟨s, o⟩, hst⟩ : ∃ s, c[k]? = some s := ⟨c[k]'(by rw [HM.out]; exact hlt), List.getElem?_eq_getElem _⟩
      obtain ⟨b, rfl, hbl, x1, x2⟩ := chg_pair HC.out hst HM.out
      simp only [strV] at x1
      simp only [intZ] at x2
      have HTK : Hid (Tidy (applyC D (c.take k))) := Lib.hid (applyC_tidy _ HT.out).1
      have HDR : Hid (∀ j, (wr.drewN j).ownsRow 0 153 2 (.slice ad dl.length cd) dl.length (entCells dl)) := Lib.hid fun j => hown
      have HOB : Hid (∀ i, o = some i → i ≤ 2199023255552) := Lib.hid (HOK.out _ (List.mem_of_getElem? hst))
      have y1 : wr.cell? ⟨b, k * 2, none⟩ = some (.string ⟨s.toArray⟩) := (hbel.cell hbl).trans x1
      have y2 : wr.cell? ⟨b, k * 2 + 1, none⟩ = some (.int .i64 (numI o)) := (hbel.cell hbl).trans x2
      have HEN := Lib.hid hents
      have HB := Lib.hid hbel
      have HST := Lib.hid hst
      have hdl : dl.length ≤ 2199023255552 := by omega
      obtain ⟨nd, hnd⟩ : ∃ nd, nd = dl.length := ⟨_, rfl⟩
      rw [← hnd] at hdl hlen HDR ⊢
      have HND := Lib.hid hnd
      clear hents hbel hst x1 x2 hown hnd
      have hbw : b < wr.heap.size := by omega
      go_wp2
      go_region_held3 (fun w' => w'.cell? ⟨b, k * 2, none⟩ = some (.string ⟨s.toArray⟩) ∧ w'.cell? ⟨b, k * 2 + 1, none⟩ = some (.int .i64 (numI o))) (first | go_keep | exact ⟨q1, q2⟩) ((go_at_call 89; refine (mset_any dl _ nd s o _ HND.out.symm (HDR.out _) hdl HOB.out).mono ?_; rintro e w1 ⟨v1, rfl, ho, hb1⟩; have HO1 := Lib.hid ho; have HB1 := Lib.hid hb1; have q1 : w1.cell? ⟨b, k * 2, none⟩ = some (.string ⟨s.toArray⟩) := (hb1.cell (p := ⟨b, k * 2, none⟩) hbw).trans y1; have q2 : w1.cell? ⟨b, k * 2 + 1, none⟩ = some (.int .i64 (numI o)) := (hb1.cell (p := ⟨b, k * 2 + 1, none⟩) hbw).trans y2; clear ho hb1))
      all_goals
        go_wp2_with fail
        go_roundw
        case rel =>
          have hsz2 := HB1.out.size
          refine ⟨k + 1, eset dl s o, by omega, by go_num, ?_, ownsRow_base_a HO1.out (Nat.zero_le _), ?_, (below_drewN HB.out 1).trans (HB1.out.mono hsz), Lib.hid (.inr fun k hk => ?_)⟩
          · rw [take_snoc_ HST.out, applyC_snoc]; exact HEN.out.set HTK.out s o
          · have := eset_len dl s o; rw [← HND.out] at this; omega
          · have := (HO1.out.lt k hk).1; exact Nat.le_trans hsz this
        case measure => simp [intOf]; omega
    · go_wp2
      go_ret
      have hkm : c.take k = c := List.take_of_length_le (by rw [HM.out]; omega)
      rw [hkm] at hents
      exact ⟨_, dl, rfl, hents, hown, by omega, hbel, HV0.out ▸ HV.out⟩

/-- What has been used is no part of the struct. -/
theorem MdAt.same {w : World} {p : Nat} {S T : Drv} {L : MLay} (h : MdAt w p S L) (h1 : T.room = S.room) (h2 : T.bodies = S.bodies) (h3 : T.now = S.now) (h4 : T.kept = S.kept) (h5 : T.pending = S.pending) : MdAt w p T L := by
  obtain ⟨r, u, b, n, k, pd⟩ := S
  obtain ⟨r', u', b', n', k', pd'⟩ := T
  simp only at h1 h2 h3 h4 h5
  subst h1 h2 h3 h4 h5
  exact ⟨h.head, ⟨h.rows.bod, h.rows.ld, h.rows.data, h.rows.now, h.rows.kept, h.rows.chs, h.rows.lc, h.rows.chg⟩⟩
theorem Md.same {w : World} {p : Nat} {S T : Drv} {F : Nat → Prop} (h : Md w p S F) (h1 : T.room = S.room) (h2 : T.bodies = S.bodies) (h3 : T.now = S.now) (h4 : T.kept = S.kept) (h5 : T.pending = S.pending) : Md w p T F := by
  obtain ⟨L, h, hF⟩ := h
  exact ⟨L, h.same h1 h2 h3 h4 h5, hF⟩

set_option maxRecDepth 100000 in
set_option maxHeartbeats 2000000 in
theorem mchange_any (p : Nat) (S : Drv) (F : Nat → Prop) (c : List Stp) (cv : Value) (w : World) (hd : Md w p S F) (hS : Sound S.now) (hss : ∀ s ∈ c, s.2.isSome = true → s.1.length ≤ 1024) (hc : w.ownsRow 0 153 2 cv c.length (chgEnts c)) (hcF : ∀ k, cv.ownBlock = some k → F k)
    (hsz : size S.now ≤ 1099511627776) (hcl : c.length ≤ 4) (hok : ∀ s ∈ c, ∀ i, s.2 = some i → i ≤ 2199023255552) (hpd : S.pending.length ≤ 1099511627776) :
    Calls Tryz.prog 126 #[.pointer (some ⟨p, 0, none⟩), cv] w fun e w' => e = .returned (.tuple #[]) ∧ Md w' p (S.change c) (grow F w w') ∧ Touch F w w' := by
  obtain ⟨L, h, hF⟩ := hd
  obtain ⟨i0, hi0, hz0, hz1, hz2⟩ := info_parts entsInfo
  obtain ⟨ac, cc, hvc, _⟩ := own_shape h.rows.chs
  obtain ⟨av, cap, hcv, _⟩ := own_shape hc
  obtain ⟨nc, hnc⟩ : ∃ nc, nc = c.length := ⟨_, rfl⟩
  rw [← hnc] at hcv hc hcl
  subst hcv
  have HNC := Lib.hid hnc
  have HH := Lib.hid h
  have HF := Lib.hid hF
  have HVC := Lib.hid hvc
  have HC := Lib.hid hc
  have HS := Lib.hid hS
  have HSS := Lib.hid hss
  have HCF := Lib.hid hcF
  obtain ⟨np, hnp⟩ : ∃ np, np = S.pending.length := ⟨_, rfl⟩
  have HNP := Lib.hid hnp
  rw [← hnp] at hpd
  have HM := Lib.hid (made_any S.now (dents S.now) (dents_ents hS) hS.tidy L.vn _ c _ nc w rfl h.rows.now hnc.symm hc (by rw [dents_length]; omega) hok)
  have c2 : w.cell? ⟨p, 2, none⟩ = some L.vn := h.head.cell 2
  have HCH : Hid (w.ownsRow 0 155 1 (.slice ac np cc) np L.chg) := Lib.hid (by have := h.rows.chs; rw [hvc, ← hnp] at this; exact this)
  have c4 : w.cell? ⟨p, 4, none⟩ = some (.slice ac np cc) := by have := h.head.cell 4; rw [this]; show some L.vc = _; rw [hvc, hnp]
  have hpl : p < w.heap.size := h.head.lt
  clear h hF hvc hc hS hss hcF hsz hok hnp hnc
  go_enter Tryz.func126, Tryz.ntmps126
  go_wp2_with (first
    | (go_at_call 125; refine HM.out.mono ?_; rintro e w1 ⟨v1, l1, rfl, hE1, hr1, hl1, hb1, hv1⟩; obtain ⟨a1, c1, rfl, _⟩ := own_shape hr1; have HE1 := Lib.hid hE1; have HR1 := Lib.hid hr1; have HB1 := Lib.hid hb1; have HV1 := Lib.hid hv1; have hb2 : Hid (Blk w1 p 158 (mhead S L)) := Lib.hid (HH.out.head.below hb1 hpl); have d2 : w1.cell? ⟨p, 2, none⟩ = some L.vn := hb2.out.cell 2; have d2f : w1.frozen? ⟨p, 2, none⟩ = false := hb2.out.frozen 2; have d4 : w1.cell? ⟨p, 4, none⟩ = some (.slice ac np cc) := (hb1.cell (p := ⟨p, 4, none⟩) hpl).trans c4; have hpl1 : p < w1.heap.size := Nat.lt_of_lt_of_le hpl hb1.size; clear hE1 hr1 hb1 hv1 hl1 c2 c4)
    | (at_builtin; go_must (refine wpList_append_any _ rfl (.tmp 17) (.tmp 19) 156 rfl 0 155 i0 _ 1 24 Tryz.underlying156 hi0 hz0 hz1 hz2 rfl (by omega) (.slice ac np cc) np L.chg rfl ((row_set (ownsRow_below HCH.out HB1.out) hb2.out (by decide) 2 _).alloc _) (w1.heap.size + 1) (some ⟨w1.heap.size, 0, none⟩) 1 1 [.slice av nc cap] rfl (by exact reads_blk (t := 155) (blk_last _ _ _ _ (size_set' _ _ _).symm) (by omega) rfl) (by intro u hu; simp at hu; subst hu; rfl) (by simp only [maxLen]; omega) (by omega) (by omega) ?_); intro v2 w2 hown2 hg2 hat2; obtain ⟨a2, c2', rfl, _⟩ := own_shape hown2; go_must (have hr3 := (row_set (ownsRow_below HCH.out HB1.out) hb2.out (by decide) 2 (.slice a1 l1.length c1)).alloc (.cells #[.slice av nc cap] 155); have hb3 := blk_grown ((hb2.out.set_ 2 (.slice a1 l1.length c1)).alloc (.cells #[.slice av nc cap] 155)) hr3 hg2 (by decide); have HB3 := Lib.hid hb3; have f4 : w2.cell? ⟨p, 4, none⟩ = some L.vc := hb3.cell 4; have f4f : w2.frozen? ⟨p, 4, none⟩ = false := hb3.frozen 4; have HR3 := Lib.hid hr3; have HO2 := Lib.hid hown2; have HG2 := Lib.hid hg2; have HAT := Lib.hid hat2; clear hr3 hb3 hown2 hg2 hat2)))
  go_end0
  have hne1 : (153 : TypeId) ≠ 158 := by decide
  obtain ⟨X3, hX3⟩ : ∃ X3, X3 = (w1.setCell ⟨p, 2, none⟩ (.slice a1 l1.length c1)).alloc (.cells #[.slice av nc cap] 155) := ⟨_, rfl⟩
  have hg2 := HG2.out
  have hr3 := HR3.out
  rw [← hX3] at hg2 hr3
  have car1 : ∀ {base size n : Nat} {e : TypeId} {v : Value} {xs : List Value}, w1.ownsRow base e size v n xs → e ≠ 158 → e ≠ 155 → (w2.setCell ⟨p, 4, none⟩ (.slice a2 (np + 1) c2')).ownsRow base e size v n xs := fun h1 h2 h3 => by
    have k1 := (row_set h1 hb2.out h2 2 (.slice a1 l1.length c1)).alloc (.cells #[.slice av nc cap] 155)
    rw [← hX3] at k1
    exact row_set (row_grown k1 hr3 hg2 h3) HB3.out h2 4 _
  have car : ∀ {base size n : Nat} {e : TypeId} {v : Value} {xs : List Value}, w.ownsRow base e size v n xs → e ≠ 158 → e ≠ 155 → (w2.setCell ⟨p, 4, none⟩ (.slice a2 (np + 1) c2')).ownsRow base e size v n xs := fun h1 h2 h3 => car1 (ownsRow_below h1 HB1.out) h2 h3
  have hpn : (S.change c).pending = S.pending ++ [c] := by unfold Drv.change; simp only; rw [(Drv.chAll_bodies S c).2.2.2]
  have hbs : (S.change c).bodies = S.bodies := (Drv.chAll_bodies S c).1
  have hnw : (S.change c).now = applyC S.now c := Drv.chAll_now S c
  have hkp : (S.change c).kept = S.kept := (Drv.chAll_bodies S c).2.2.1
  have hrm : (S.change c).room = S.room := (Drv.chAll_bodies S c).2.1
  have hl1 : l1 = dents (applyC S.now c) := HE1.out.dents (HS.out.app c HSS.out)
  have hpl2 : (S.change c).pending.length = np + 1 := by rw [hpn, List.length_append, HNP.out]; rfl
  have hT : Touch F w (w2.setCell ⟨p, 4, none⟩ (.slice a2 (np + 1) c2')) := by
    have hFp : F p := HF.out p (.inl rfl)
    have t1 : Touch F w w1 := Touch.of_below HB1.out
    have t2 : Touch F w1 X3 := by rw [hX3]; exact (Touch.setCell w1 ⟨p, 2, none⟩ _ hFp).then_ (Touch.alloc _ _)
    have t3 : Touch F X3 w2 := Touch.of_grown hg2 fun k hk => HF.out k (.inr (.inr (.inr (.inr (.inl (by rw [HVC.out, ← HNP.out]; exact hk))))))
    exact ((t1.then_ t2).then_ t3).then_ (Touch.setCell _ _ _ hFp)
  refine ⟨rfl, ⟨{ L with vn := .slice a1 l1.length c1, vc := .slice a2 (np + 1) c2', chg := L.chg ++ [.slice av nc cap] }, ⟨?_, ?_⟩, ?_⟩, hT⟩
  · have := HB3.out.set_ 4 (.slice a2 (np + 1) c2')
    unfold mhead at this ⊢
    rw [hrm]
    exact this
  · exact {
      bod := by rw [hbs]; exact car HH.out.rows.bod (by decide) (by decide)
      ld := by rw [hbs]; exact HH.out.rows.ld
      data := fun i hi => by
        have e1 : (S.change c).body i = S.body i := by unfold Drv.body; rw [hbs]
        have e2 : (S.change c).len i = S.len i := by unfold Drv.len; rw [e1]
        rw [e1, e2]
        rw [hbs] at hi
        exact car (HH.out.rows.data i hi) (by decide) (by decide)
      now := by rw [hnw, ← hl1]; exact car1 HR1.out (by decide) (by decide)
      kept := by rw [hkp]; exact car HH.out.rows.kept (by decide) (by decide)
      chs := by rw [hpl2]; exact row_set HO2.out HB3.out (by decide) 4 _
      lc := by rw [hpl2, List.length_append, HH.out.rows.lc, ← HNP.out]; rfl
      chg := fun j hj => by
        rw [hpl2] at hj
        have hlc : L.chg.length = np := by rw [HH.out.rows.lc, ← HNP.out]
        by_cases hjn : j < np
        · have e1 : (S.change c).pending.getD j [] = S.pending.getD j [] := by rw [hpn]; exact getD_snoc_lt (by rw [← HNP.out]; exact hjn)
          have e2 : ({ L with vn := .slice a1 l1.length c1, vc := .slice a2 (np + 1) c2', chg := L.chg ++ [.slice av nc cap] } : MLay).ch j = L.ch j := getD_snoc_lt (by rw [hlc]; exact hjn)
          rw [e1, e2]
          exact car (HH.out.rows.chg j (by rw [← HNP.out]; exact hjn)) (by decide) (by decide)
        · obtain rfl : j = np := by omega
          have e1 : (S.change c).pending.getD j [] = c := by rw [hpn, HNP.out]; exact getD_snoc_eq
          have e2 : ({ L with vn := .slice a1 l1.length c1, vc := .slice a2 (j + 1) c2', chg := L.chg ++ [.slice av nc cap] } : MLay).ch j = .slice av nc cap := by show (L.chg ++ [_]).getD j _ = _; rw [← hlc]; exact getD_snoc_eq
          rw [e1, e2, ← HNC.out]
          exact car HC.out (by decide) (by decide) }
  · have hgr : ∀ k, F k → grow F w (w2.setCell ⟨p, 4, none⟩ (.slice a2 (np + 1) c2')) k := fun k hk => .inl hk
    rintro k (hk | hk | hk | hk | hk | ⟨v, hv, hk⟩ | ⟨v, hv, hk⟩)
    · exact hgr k (HF.out k (.inl hk))
    · exact hgr k (HF.out k (.inr (.inl hk)))
    · rcases HV1.out with e | e
      · exact hgr k (HF.out k (.inr (.inr (.inl (by rw [← e]; exact hk)))))
      · exact .inr ⟨e k hk, (car1 HR1.out (by decide) (by decide)).lt k hk |>.2⟩
    · exact hgr k (HF.out k (.inr (.inr (.inr (.inl hk)))))
    · rcases HAT.out with e | e
      · exact hgr k (HF.out k (.inr (.inr (.inr (.inr (.inl (by rw [HVC.out, ← HNP.out]; exact e.symm.trans hk)))))))
      · have hk' : (Value.slice a2 (np + 1) c2').ownBlock = some k := hk
        rw [e] at hk'
        injection hk' with hk'
        refine .inr ⟨by rw [← hk']; rw [alloc_size, size_set']; have := HB1.out.size; omega, (row_set HO2.out HB3.out (by decide) 4 _).lt k hk |>.2⟩
    · exact hgr k (HF.out k (.inr (.inr (.inr (.inr (.inr (.inl ⟨v, hv, hk⟩)))))))
    · rcases List.mem_append.1 hv with hv | hv
      · exact hgr k (HF.out k (.inr (.inr (.inr (.inr (.inr (.inr ⟨v, hv, hk⟩)))))))
      · rw [List.mem_singleton] at hv; subst hv; exact hgr k (HCF.out k hk)
end Go.Proofs.YtdmcjomcbhdcbaaGreat
namespace Go.Proofs.YtdmcjomcbhdcbaaGreat
open Go.RowKit Go.Maps

theorem nm_size (s : Nm) : (⟨s.toArray⟩ : ByteArray).size = s.length := by simp [ByteArray.size]
theorem nm_data (s : Nm) : (⟨s.toArray⟩ : ByteArray).data.toList = s := by simp
theorem mnamed_nm (s : Nm) (w : World) (hs : s.length ≤ maxLen) :
    Calls Tryz.prog 86 #[.string ⟨s.toArray⟩] w fun e w' => e = .returned (.bool (named s)) ∧ w = w' := by
  have := mnamed_any ⟨s.toArray⟩ w (by rw [nm_size]; exact hs)
  rw [nm_data] at this; exact this

/-- What is asked of the drive's parts. -/
structure MOk (S : Drv) : Prop where
  now : Sound S.now
  kept : Sound S.kept
  snow : size S.now ≤ 1099511627776
  skept : size S.kept ≤ 1099511627776
  pend : S.pending.length ≤ 1099511627776
  nb : S.bodies.length ≤ 1099511627776
  rlt : ∀ s i, dget S.now s = some i → i < S.bodies.length
  len : ∀ i, S.len i ≤ 2147483648

def up (F : Nat → Prop) (w : World) (k : Nat) : Prop := F k ∨ w.heap.size ≤ k
theorem md_end {w X w' : World} {p : Nat} {S : Drv} {F : Nat → Prop} (h : Md w' p S (grow (up F w) X w')) (ht : Touch (up F w) X w') (hX : Touch F w X) : Md w' p S (grow F w w') ∧ Touch F w w' := by
  have h1 := hX.size
  refine ⟨h.lt.mono fun k hk => ?_, hX.trans (ht.mono fun k hk hu => ?_)⟩
  · obtain ⟨(hk | hk) | hk, hl⟩ := hk
    · exact .inl hk
    · exact .inr ⟨hk, hl⟩
    · exact .inr ⟨by omega, hl⟩
  · rcases hu with hu | hu
    · exact .inl hu
    · exact .inr ⟨hu, hk⟩

theorem mat_nil (s : Nm) (w : World) : Calls Tryz.prog 98 #[.pointer none, .string ⟨s.toArray⟩] w fun e w' => e = .returned (.tuple #[.int .i64 (-1), .int .i64 1]) ∧ w = w' := by
  go_enter Tryz.func98, Tryz.ntmps98
  go_wp2
  go_ret2
  exact ⟨rfl, rfl⟩
theorem mat_any (p : Nat) (S : Drv) (F : Nat → Prop) (s : Nm) (w : World) (hs : s.length ≤ maxLen) (hd : Md w p S F) (hS : Sound S.now) (hsz : size S.now ≤ 1099511627776) :
    Calls Tryz.prog 98 #[.pointer (some ⟨p, 0, none⟩), .string ⟨s.toArray⟩] w fun e w' => e = .returned (.tuple #[.int .i64 (numI (S.find s).1), .int .i64 (S.find s).2]) ∧ w = w' := by
  obtain ⟨L, h, _⟩ := hd
  have c2 : w.cell? ⟨p, 2, none⟩ = some L.vn := h.head.cell 2
  have HF := Lib.hid (mfind_any S.now (dents S.now) (dents_ents hS) L.vn _ s w rfl h.rows.now (by rw [dents_length]; omega))
  have HNM := Lib.hid (mnamed_nm s w hs)
  clear h hs hS
  cases hn : named s with
  | false =>
    rw [hn] at HNM
    have HR : Hid (S.find s = (none, 91)) := by unfold Drv.find; rw [hn]; exact rfl
    rw [HR.out]
    clear hn
    go_enter Tryz.func98, Tryz.ntmps98
    go_wp2_with (go_at_call 86; refine HNM.out.mono ?_; rintro e w' ⟨rfl, rfl⟩)
    go_ret2
    exact ⟨rfl, rfl⟩
  | true =>
    rw [hn] at HNM
    cases hg : dget S.now s with
    | none =>
      have HR : Hid (S.find s = (none, 110)) := by unfold Drv.find; rw [hn, hg]; exact rfl
      rw [HR.out]
      rw [hg] at HF
      clear hn hg
      go_enter Tryz.func98, Tryz.ntmps98
      go_wp2_with (first
        | (go_at_call 86; refine HNM.out.mono ?_; rintro e w' ⟨rfl, rfl⟩)
        | (go_at_call 87; refine HF.out.mono ?_; rintro e w' ⟨rfl, rfl⟩; simp only [numI]))
      go_ret2
      exact ⟨rfl, rfl⟩
    | some i =>
      have HR : Hid (S.find s = (some i, 0)) := by unfold Drv.find; rw [hn, hg]; exact rfl
      rw [HR.out]
      rw [hg] at HF
      clear hn hg
      go_enter Tryz.func98, Tryz.ntmps98
      go_wp2_with (first
        | (go_at_call 86; refine HNM.out.mono ?_; rintro e w' ⟨rfl, rfl⟩)
        | (go_at_call 87; refine HF.out.mono ?_; rintro e w' ⟨rfl, rfl⟩; simp only [numI]))
      go_ret2
      exact ⟨rfl, rfl⟩

theorem bodCells_snoc (vals : List Value) (bs : List Body) (d : Value) (B : Body) (h : vals.length = bs.length) : bodCells (vals ++ [d]) (bs ++ [B]) = bodCells vals bs ++ [d, intZ (B.safe : Int)] := by
  unfold bodCells
  rw [List.zip_append h, List.flatMap_append]; rfl
/-- One body more. -/
theorem MdAt.addBody {w w' : World} {p : Nat} {S : Drv} {L : MLay} {v d : Value} {B : Body} (h : MdAt w p S L)
    (car : ∀ {base size n : Nat} {e : TypeId} {v : Value} {xs : List Value}, w.ownsRow base e size v n xs → e ≠ 158 → e ≠ 161 → w'.ownsRow base e size v n xs)
    (hh : Blk w' p 158 (mhead S { L with vb := v })) (hrow : w'.ownsRow 0 161 2 v (S.bodies.length + 1) (bodCells L.dat S.bodies ++ [d, intZ (B.safe : Int)]))
    (hdat : w'.ownsRow 0 5 1 d B.data.length (B.data.map B8)) : MdAt w' p { S with bodies := S.bodies ++ [B] } { L with vb := v, dat := L.dat ++ [d] } where
  head := hh
  rows := {
    bod := by
      show World.ownsRow _ _ _ _ _ (S.bodies ++ [B]).length (bodCells (L.dat ++ [d]) (S.bodies ++ [B]))
      rw [List.length_append, bodCells_snoc _ _ _ _ h.rows.ld]; exact hrow
    ld := by show (L.dat ++ [d]).length = (S.bodies ++ [B]).length; rw [List.length_append, List.length_append, h.rows.ld]; rfl
    data := fun i hi => by
      have hl : (S.bodies ++ [B]).length = S.bodies.length + 1 := by rw [List.length_append]; rfl
      have hi' : i < S.bodies.length + 1 := by rw [← hl]; exact hi
      by_cases hlt : i < S.bodies.length
      · have e1 : ({ S with bodies := S.bodies ++ [B] } : Drv).body i = S.body i := getD_snoc_lt hlt
        have e2 : ({ L with vb := v, dat := L.dat ++ [d] } : MLay).da i = L.da i := getD_snoc_lt (by rw [h.rows.ld]; exact hlt)
        unfold Drv.len
        rw [e1, e2]
        exact car (h.rows.data i hlt) (by decide) (by decide)
      · obtain rfl : i = S.bodies.length := by omega
        have e1 : ({ S with bodies := S.bodies ++ [B] } : Drv).body S.bodies.length = B := getD_snoc_eq
        have e2 : ({ L with vb := v, dat := L.dat ++ [d] } : MLay).da S.bodies.length = d := by show (L.dat ++ [d]).getD S.bodies.length _ = d; rw [← h.rows.ld]; exact getD_snoc_eq
        unfold Drv.len
        rw [e1, e2]
        exact hdat
    now := car h.rows.now (by decide) (by decide)
    kept := car h.rows.kept (by decide) (by decide)
    chs := car h.rows.chs (by decide) (by decide)
    lc := h.rows.lc
    chg := fun j hj => car (h.rows.chg j hj) (by decide) (by decide) }
end Go.Proofs.YtdmcjomcbhdcbaaGreat
namespace Go.Proofs.YtdmcjomcbhdcbaaGreat
open Go.RowKit Go.Maps

/-- A change that was written out in place. -/
theorem mchange_lit (p : Nat) (S : Drv) (F : Nat → Prop) (c : List Stp) (n : Nat) (w X : World) (hX : Touch F w X) (hd : Md X p S (up F w)) (cs : Array Value) (hcs : cs.toList = chgEnts c) (hn : c.length = n) (b : Nat) (hb : b = X.heap.size)
    (hS : Sound S.now) (hss : ∀ s ∈ c, s.2.isSome = true → s.1.length ≤ 1024) (hsz : size S.now ≤ 1099511627776) (hcl : n ≤ 4) (hok : ∀ s ∈ c, ∀ i, s.2 = some i → i ≤ 2199023255552) (hpd : S.pending.length ≤ 1099511627776) :
    Calls Tryz.prog 126 #[.pointer (some ⟨p, 0, none⟩), .slice (some ⟨b, 0, none⟩) n n] (X.alloc (.cells cs 153)) fun e w' => e = .returned (.tuple #[]) ∧ Md w' p (S.change c) (grow F w w') ∧ Touch F w w' := by
  subst hb hn
  have hsize : cs.size = c.length * 2 := by rw [← Array.length_toList, hcs]; unfold chgEnts; rw [pair_len]
  have hrow := World.ownsRow_lit (base := 0) (e := 153) (size := 2) X cs c.length (Nat.zero_le _) (by simp only [maxLen]; omega) hsize
  rw [hcs] at hrow
  refine (mchange_any p S (up F w) c _ _ (hd.keep (Touch.alloc (F := fun _ => False) _ _) fun _ _ h => h) hS hss hrow (fun k hk => ?_) hsz hcl hok hpd).mono ?_
  · have e : some X.heap.size = some k := hk
    injection e with e
    exact .inr (by have := hX.size; omega)
  · rintro e w' ⟨he, hm, ht⟩
    exact ⟨he, md_end hm ht (hX.then_ (Touch.alloc _ _))⟩
theorem create_mid {w w2 : World} {p nb cb c2 : Nat} {S : Drv} {L : MLay} {F : Nat → Prop} {ab a2 : Option Addr} {o : Obj} (hh : MdAt w p S L) (hF : ∀ k, L.foot p k → F k) (hvb : L.vb = .slice ab nb cb) (hnb : nb = S.bodies.length) (hb3 : Blk w2 p 158 (mhead S L))
    (hr3 : (w.alloc o).ownsRow 0 161 2 (.slice ab nb cb) nb (bodCells L.dat S.bodies))
    (hO2 : w2.ownsRow 0 161 2 (.slice a2 (nb + 1) c2) (nb + 1) (bodCells L.dat S.bodies ++ [.slice none 0 0, .int .i64 0])) (hg2 : (w.alloc o).grownBy w2 (Value.slice ab nb cb).ownBlock)
    (hat : (Value.slice a2 (nb + 1) c2).ownBlock = (Value.slice ab nb cb).ownBlock ∨ (Value.slice a2 (nb + 1) c2).ownBlock = some (w.alloc o).heap.size) :
    Md (w2.setCell ⟨p, 1, none⟩ (.slice a2 (nb + 1) c2)) p { S with bodies := S.bodies ++ [⟨[], 0⟩] } (up F w) ∧ Touch F w (w2.setCell ⟨p, 1, none⟩ (.slice a2 (nb + 1) c2)) := by
  have hT : Touch F w (w2.setCell ⟨p, 1, none⟩ (.slice a2 (nb + 1) c2)) :=
    ((Touch.alloc (F := F) w o).then_ (Touch.of_grown hg2 fun k hk => hF k (.inr (.inl (by rw [hvb]; exact hk))))).then_ (Touch.setCell _ _ _ (hF p (.inl rfl)))
  refine ⟨⟨{ L with vb := .slice a2 (nb + 1) c2, dat := L.dat ++ [.slice none 0 0] }, hh.addBody (fun h1 h2 h3 => row_set (row_grown (h1.alloc o) hr3 hg2 h3) hb3 h2 1 _) ?_ ?_ (World.ownsRow_nil _ _ _ _), ?_⟩, hT⟩
  · have := hb3.set_ 1 (.slice a2 (nb + 1) c2)
    unfold mhead at this ⊢
    exact this
  · rw [← hnb]; exact row_set hO2 hb3 (by decide) 1 _
  · rintro k (hk | hk | hk | hk | hk | ⟨v, hv, hk⟩ | ⟨v, hv, hk⟩)
    · exact .inl (hF k (.inl hk))
    · rcases hat with e | e
      · exact .inl (hF k (.inr (.inl (by rw [hvb]; exact e.symm.trans hk))))
      · have hk' : (Value.slice a2 (nb + 1) c2).ownBlock = some k := hk
        rw [e] at hk'
        injection hk' with hk'
        rw [alloc_size] at hk'
        exact .inr (by omega)
    · exact .inl (hF k (.inr (.inr (.inl hk))))
    · exact .inl (hF k (.inr (.inr (.inr (.inl hk)))))
    · exact .inl (hF k (.inr (.inr (.inr (.inr (.inl hk))))))
    · rcases List.mem_append.1 hv with hv | hv
      · exact .inl (hF k (.inr (.inr (.inr (.inr (.inr (.inl ⟨v, hv, hk⟩)))))))
      · rw [List.mem_singleton] at hv; subst hv; simp [Value.ownBlock] at hk
    · exact .inl (hF k (.inr (.inr (.inr (.inr (.inr (.inr ⟨v, hv, hk⟩)))))))

theorem mcreate_nil (s : Nm) (w : World) : Calls Tryz.prog 115 #[.pointer none, .string ⟨s.toArray⟩] w fun e w' => e = .returned (.int .i64 1) ∧ w = w' := by
  go_enter Tryz.func115, Tryz.ntmps115
  go_wp2
  go_ret
  exact ⟨rfl, rfl⟩

set_option maxRecDepth 100000 in
set_option maxHeartbeats 2000000 in
theorem mcreate_any (p : Nat) (S : Drv) (F : Nat → Prop) (s : Nm) (w : World) (hs : s.length ≤ maxLen) (hd : Md w p S F) (hS : MOk S) :
    Calls Tryz.prog 115 #[.pointer (some ⟨p, 0, none⟩), .string ⟨s.toArray⟩] w fun e w' => e = .returned (.int .i64 (S.create s).2) ∧ Md w' p (S.create s).1 (grow F w w') ∧ Touch F w w' := by
  have HD := Lib.hid hd
  have HNM := Lib.hid (mnamed_nm s w hs)
  have HOK := Lib.hid hS
  obtain ⟨L, h, hF⟩ := hd
  have hlen := dents_length S.now
  have hsz := hS.snow
  obtain ⟨vnb, hvn⟩ : ∃ x, x = L.vn := ⟨_, rfl⟩
  obtain ⟨an, cn, hvs, _⟩ := own_shape h.rows.now
  have c2 : w.cell? ⟨p, 2, none⟩ = some (.slice an (dents S.now).length cn) := by have := h.head.cell 2; rw [this]; show some L.vn = _; rw [hvs]
  have HF := Lib.hid (mfind_any S.now (dents S.now) (dents_ents hS.now) _ _ s w rfl h.rows.now (by omega))
  rw [hvs] at HF
  obtain ⟨nd, hnd⟩ : ∃ nd, nd = (dents S.now).length := ⟨_, rfl⟩
  rw [← hnd] at c2 HF hlen
  have HL := Lib.hid hlen
  cases hn : named s with
  | false =>
    rw [hn] at HNM
    have HR : Hid (S.create s = (S, 91)) := by unfold Drv.create; rw [if_pos hn]; exact rfl
    rw [HR.out]
    clear hn h hF hS hs hlen hvs hvn hnd
    go_enter Tryz.func115, Tryz.ntmps115
    go_wp2_with (go_at_call 86; refine HNM.out.mono ?_; rintro e w' ⟨rfl, rfl⟩)
    go_ret
    exact ⟨rfl, HD.out.mono fun k hk => .inl hk, Touch.refl _ _⟩
  | true =>
    rw [hn] at HNM
    have HN := Lib.hid hn
    by_cases hfull : dget S.now s = none ∧ 65536 ≤ size S.now
    · have HR : Hid (S.create s = (S, 112)) := by unfold Drv.create; rw [if_neg (by rw [hn]; decide), if_pos hfull]; exact rfl
      rw [HR.out]
      rw [hfull.1] at HF
      have hge : decide ((65536 : Int) ≤ (nd : Int)) = true := decide_eq_true (by have := hfull.2; omega)
      clear hn h hF hS hs hlen hvs hvn hnd hfull
      go_enter Tryz.func115, Tryz.ntmps115
      go_wp2_with (first
        | (go_at_call 86; refine HNM.out.mono ?_; rintro e w' ⟨rfl, rfl⟩)
        | (go_at_call 87; refine HF.out.mono ?_; rintro e w' ⟨rfl, rfl⟩; simp only [numI]))
      go_ret
      exact ⟨rfl, HD.out.mono fun k hk => .inl hk, Touch.refl _ _⟩
    · obtain ⟨S1, hS1⟩ : ∃ S1 : Drv, S1 = { S with bodies := S.bodies ++ [⟨[], 0⟩] } := ⟨_, rfl⟩
      have HR : Hid (S.create s = (S1.change [(s, some S.bodies.length)], 0)) := by unfold Drv.create; rw [if_neg (by rw [hn]; decide), if_neg hfull, hS1]; exact rfl
      have HS1 := Lib.hid hS1
      rw [HR.out]
      have hnf : (∃ i, dget S.now s = some i) ∨ (dget S.now s = none ∧ decide ((65536 : Int) ≤ (nd : Int)) = false) := by
        cases hg : dget S.now s with
        | some i => exact .inl ⟨i, rfl⟩
        | none => exact .inr ⟨rfl, decide_eq_false fun h => hfull ⟨hg, by omega⟩⟩
      obtain ⟨i0, hi0, hz0, hz1, hz2⟩ := info_parts bodInfo
      obtain ⟨ab, cb, hvb, _⟩ := own_shape h.rows.bod
      obtain ⟨nb, hnb⟩ : ∃ nb, nb = S.bodies.length := ⟨_, rfl⟩
      have hnbl := hS.nb
      rw [← hnb] at hvb hnbl
      rw [← hnb]
      have HNB := Lib.hid hnb
      have c1 : w.cell? ⟨p, 1, none⟩ = some (.slice ab nb cb) := by have := h.head.cell 1; rw [this]; show some L.vb = _; rw [hvb]
      have HBO : Hid (w.ownsRow 0 161 2 (.slice ab nb cb) nb (bodCells L.dat S.bodies)) := Lib.hid (by have := h.rows.bod; rw [hvb, ← hnb] at this; exact this)
      have hpl : p < w.heap.size := h.head.lt
      have HH := Lib.hid h
      have HFF := Lib.hid hF
      have HVB := Lib.hid hvb
      clear hn h hF hS hs hlen hvs hvn hnd hfull hS1 hvb hnb
      rcases hnf with ⟨i, hg⟩ | ⟨hg, hlt⟩
      all_goals
        rw [hg] at HF
        clear hg
        go_enter Tryz.func115, Tryz.ntmps115
        go_wp2_with (first
          | (go_at_call 86; refine HNM.out.mono ?_; rintro e w' ⟨rfl, rfl⟩)
          | (go_at_call 87; refine HF.out.mono ?_; rintro e w' ⟨rfl, rfl⟩; simp only [numI])
          | (at_builtin; go_must (refine wpList_append_any _ rfl (.tmp 31) (.tmp 33) 154 rfl 0 161 i0 _ 2 32 Tryz.underlying154 hi0 hz0 hz1 hz2 rfl (by omega) (.slice ab nb cb) nb _ rfl (HBO.out.alloc _) (w.heap.size + 1) (some ⟨w.heap.size, 0, none⟩) 1 1 [.slice none 0 0, .int .i64 0] rfl (by exact reads_blk (t := 161) (blk_last _ _ _ _ rfl) (by omega) rfl) (by intro u hu; simp at hu; rcases hu with rfl | rfl <;> rfl) (by simp only [maxLen]; omega) (by omega) (by omega) ?_); intro v2 w2 hown2 hg2 hat2; obtain ⟨a2, c2', rfl, _⟩ := own_shape hown2; go_must (have hr3 := HBO.out.alloc (.cells #[.slice none 0 0, .int .i64 0] 161); have hb3 := blk_grown (HH.out.head.alloc (.cells #[.slice none 0 0, .int .i64 0] 161)) hr3 hg2 (by decide); have HB3 := Lib.hid hb3; have f4 : w2.cell? ⟨p, 1, none⟩ = some L.vb := hb3.cell 1; have f4f : w2.frozen? ⟨p, 1, none⟩ = false := hb3.frozen 1; have hpl2 : p < w2.heap.size := hb3.lt; have HR3 := Lib.hid hr3; have HO2 := Lib.hid hown2; have HG2 := Lib.hid hg2; have HMID := Lib.hid (create_mid HH.out HFF.out HVB.out HNB.out hb3 hr3 hown2 hg2 hat2); clear hr3 hb3 hown2 hg2 hat2))
          | (go_at_call 126; go_must (refine (mchange_lit p S1 F [(s, some nb)] 1 w _ HMID.out.2 (by rw [HS1.out]; exact HMID.out.1) _ rfl rfl _ (size_set' _ _ _).symm (by rw [HS1.out]; exact HOK.out.now) (fun q hq _ => (by rw [List.mem_singleton] at hq; rw [hq]; exact named_len HN.out)) (by rw [HS1.out]; exact hsz) (by omega) (fun q hq i hi => (by rw [List.mem_singleton] at hq; rw [hq] at hi; injection hi with hi; omega)) (by rw [HS1.out]; exact HOK.out.pend)).mono ?_); rintro e w4 ⟨rfl, h4, h5⟩; have HM4 := Lib.hid h4; have HT4 := Lib.hid h5; clear h4 h5))
        go_ret
        exact ⟨rfl, HM4.out, HT4.out⟩

theorem find_cases' (S : Drv) (s : Nm) : (∃ x : Int, S.find s = (none, x) ∧ (x = 91 ∨ x = 110)) ∨ ∃ i, S.find s = (some i, 0) ∧ dget S.now s = some i ∧ named s = true := by
  unfold Drv.find
  cases hn : named s with
  | false => rw [if_pos rfl]; exact .inl ⟨91, rfl, .inl rfl⟩
  | true =>
    rw [if_neg (by decide)]
    cases hg : dget S.now s with
    | none => exact .inl ⟨110, rfl, .inr rfl⟩
    | some i => exact .inr ⟨i, rfl, rfl, rfl⟩
set_option maxRecDepth 100000 in
set_option maxHeartbeats 2000000 in
theorem mremove_any (p : Nat) (S : Drv) (F : Nat → Prop) (s : Nm) (w : World) (hs : s.length ≤ maxLen) (hd : Md w p S F) (hS : MOk S) :
    Calls Tryz.prog 120 #[.pointer (some ⟨p, 0, none⟩), .string ⟨s.toArray⟩] w fun e w' => e = .returned (.int .i64 (S.remove s).2) ∧ Md w' p (S.remove s).1 (grow F w w') ∧ Touch F w w' := by
  have HD := Lib.hid hd
  have HA := Lib.hid (mat_any p S F s w hs hd hS.now hS.snow)
  have HOK := Lib.hid hS
  rcases find_cases' S s with ⟨x, hx, hxx⟩ | ⟨i, hx, _, _⟩
  · have HR : Hid (S.remove s = (S, x)) := by unfold Drv.remove; rw [hx]; exact rfl
    rw [HR.out]
    rw [hx] at HA
    simp only [numI] at HA
    have hne : (x != 0) = true := by rcases hxx with rfl | rfl <;> rfl
    clear hx hxx hS hd
    go_enter Tryz.func120, Tryz.ntmps120
    go_wp2_with (go_at_call 98; refine HA.out.mono ?_; rintro e w' ⟨rfl, rfl⟩)
    go_ret
    exact ⟨rfl, HD.out.mono fun k hk => .inl hk, Touch.refl _ _⟩
  · have HR : Hid (S.remove s = (S.change [(s, none)], 0)) := by unfold Drv.remove; rw [hx]; exact rfl
    rw [HR.out]
    rw [hx] at HA
    simp only [numI] at HA
    have HMD : Hid (Md w p S (up F w)) := Lib.hid (hd.mono fun k hk => .inl hk)
    clear hx hS hd
    go_enter Tryz.func120, Tryz.ntmps120
    go_wp2_with (first
      | (go_at_call 98; refine HA.out.mono ?_; rintro e w' ⟨rfl, rfl⟩)
      | (go_at_call 126; go_must (refine (mchange_lit p S F [(s, none)] 1 w _ (Touch.refl _ _) HMD.out _ rfl rfl _ rfl HOK.out.now (fun q hq hs => (by rw [List.mem_singleton] at hq; rw [hq] at hs; cases hs)) HOK.out.snow (by omega) (fun q hq i hi => (by rw [List.mem_singleton] at hq; rw [hq] at hi; cases hi)) HOK.out.pend).mono ?_); rintro e w4 ⟨rfl, h4, h5⟩; have HM4 := Lib.hid h4; have HT4 := Lib.hid h5; clear h4 h5))
    go_ret
    exact ⟨rfl, HM4.out, HT4.out⟩
theorem mremove_nil (s : Nm) (w : World) : Calls Tryz.prog 120 #[.pointer none, .string ⟨s.toArray⟩] w fun e w' => e = .returned (.int .i64 1) ∧ w = w' := by
  have HA := Lib.hid (mat_nil s w)
  go_enter Tryz.func120, Tryz.ntmps120
  go_wp2_with (go_at_call 98; refine HA.out.mono ?_; rintro e w' ⟨rfl, rfl⟩)
  go_ret
  exact ⟨rfl, rfl⟩

theorem ren_short {s t : Nm} {i : Nat} (h : named t = true) : ∀ q ∈ ([(s, none), (t, some i)] : List Stp), q.2.isSome = true → q.1.length ≤ 1024 := by
  intro q hq hs
  rcases List.mem_cons.1 hq with hq | hq
  · rw [hq] at hs; cases hs
  · rw [List.mem_singleton] at hq; rw [hq]; exact named_len h
theorem ren_bd {s t : Nm} {i : Nat} (h : i ≤ 2199023255552) : ∀ q ∈ ([(s, none), (t, some i)] : List Stp), ∀ j, q.2 = some j → j ≤ 2199023255552 := by
  intro q hq j hj
  rcases List.mem_cons.1 hq with hq | hq
  · rw [hq] at hj; cases hj
  · rw [List.mem_singleton] at hq; rw [hq] at hj; injection hj with hj; omega
set_option maxRecDepth 100000 in
set_option maxHeartbeats 2000000 in
theorem mrename_any (p : Nat) (S : Drv) (F : Nat → Prop) (s t : Nm) (w : World) (hs : s.length ≤ maxLen) (ht : t.length ≤ maxLen) (hd : Md w p S F) (hS : MOk S) :
    Calls Tryz.prog 118 #[.pointer (some ⟨p, 0, none⟩), .string ⟨s.toArray⟩, .string ⟨t.toArray⟩] w fun e w' => e = .returned (.int .i64 (S.rename s t).2) ∧ Md w' p (S.rename s t).1 (grow F w w') ∧ Touch F w w' := by
  have HD := Lib.hid hd
  have HOK := Lib.hid hS
  have HNS := Lib.hid (mnamed_nm s w hs)
  have HNT := Lib.hid (mnamed_nm t w ht)
  have HMD : Hid (Md w p S (up F w)) := Lib.hid (hd.mono fun k hk => .inl hk)
  obtain ⟨L, h, hF⟩ := hd
  have c2 : w.cell? ⟨p, 2, none⟩ = some L.vn := h.head.cell 2
  have HF := Lib.hid (mfind_any S.now (dents S.now) (dents_ents hS.now) L.vn _ s w rfl h.rows.now (by rw [dents_length]; have := hS.snow; omega))
  have hrl := hS.rlt s
  have hnb := hS.nb
  clear h hF hS
  have tok : True := trivial
  cases hns : named s with
  | false =>
    have HR : Hid (S.rename s t = (S, 91)) := by
      unfold Drv.rename
      rw [if_neg (by rw [hns]; simp)]
      have : S.find s = (none, 91) := by unfold Drv.find; rw [hns]; rfl
      rw [this]; exact rfl
    rw [HR.out]
    rw [hns] at HNS
    obtain ⟨bt, hbt⟩ : ∃ b, b = named t := ⟨_, rfl⟩
    rw [← hbt] at HNT
    clear hns hbt hrl
    go_enter Tryz.func118, Tryz.ntmps118
    go_wp2_with (first
      | (go_at_call 86; have _t := tok; refine HNS.out.mono ?_; rintro e w' ⟨rfl, rfl⟩; clear tok)
      | (go_at_call 86; refine HNT.out.mono ?_; rintro e w' ⟨rfl, rfl⟩))
    go_ret
    exact ⟨rfl, HD.out.mono fun k hk => .inl hk, Touch.refl _ _⟩
  | true =>
    rw [hns] at HNS
    cases hnt : named t with
    | false =>
      have HR : Hid (S.rename s t = (S, 91)) := by unfold Drv.rename; rw [if_pos ⟨hns, hnt⟩]; exact rfl
      rw [HR.out]
      rw [hnt] at HNT
      clear hns hnt hrl
      go_enter Tryz.func118, Tryz.ntmps118
      go_wp2_with (first
        | (go_at_call 86; have _t := tok; refine HNS.out.mono ?_; rintro e w' ⟨rfl, rfl⟩; clear tok)
        | (go_at_call 86; refine HNT.out.mono ?_; rintro e w' ⟨rfl, rfl⟩))
      go_ret
      exact ⟨rfl, HD.out.mono fun k hk => .inl hk, Touch.refl _ _⟩
    | true =>
      rw [hnt] at HNT
      have hfd : S.find s = match dget S.now s with | some i => (some i, 0) | none => (none, 110) := by unfold Drv.find; rw [if_neg (by rw [hns]; decide)]; rfl
      have hr0 : S.rename s t = match S.find s with | (none, e) => (S, e) | (some i, _) => if s = t then (S, 0) else (S.change [(s, none), (t, some i)], 0) := by unfold Drv.rename; rw [if_neg (by rw [hnt]; simp)]; rfl
      have HNTN := Lib.hid hnt
      cases hg : dget S.now s with
      | none =>
        have HR : Hid (S.rename s t = (S, 110)) := by rw [Hid, hr0, hfd, hg]
        rw [HR.out]
        rw [hg] at HF
        clear hns hnt hrl hfd hr0 hg
        go_enter Tryz.func118, Tryz.ntmps118
        go_wp2_with (first
          | (go_at_call 86; have _t := tok; refine HNS.out.mono ?_; rintro e w' ⟨rfl, rfl⟩; clear tok)
          | (go_at_call 86; refine HNT.out.mono ?_; rintro e w' ⟨rfl, rfl⟩)
          | (go_at_call 87; refine HF.out.mono ?_; rintro e w' ⟨rfl, rfl⟩; simp only [numI]))
        go_ret
        exact ⟨rfl, HD.out.mono fun k hk => .inl hk, Touch.refl _ _⟩
      | some i =>
        rw [hg] at HF
        have hil := hrl i hg
        by_cases he : s = t
        · have HR : Hid (S.rename s t = (S, 0)) := by rw [Hid, hr0, hfd, hg]; exact if_pos he
          rw [HR.out]
          clear hns hnt hrl hfd hr0 hg
          subst he
          go_enter Tryz.func118, Tryz.ntmps118
          go_wp2_with (first
            | (go_at_call 86; refine HNS.out.mono ?_; rintro e w' ⟨rfl, rfl⟩)
            | (go_at_call 87; refine HF.out.mono ?_; rintro e w' ⟨rfl, rfl⟩; simp only [numI]))
          go_ret
          exact ⟨rfl, HD.out.mono fun k hk => .inl hk, Touch.refl _ _⟩
        · have HR : Hid (S.rename s t = (S.change [(s, none), (t, some i)], 0)) := by rw [Hid, hr0, hfd, hg]; exact if_neg he
          rw [HR.out]
          have hne : (s != t) = true := by simpa using he
          have hne2 : (s == t) = false := by simpa using he
          clear hns hnt hrl hfd hr0 hg he
          go_enter Tryz.func118, Tryz.ntmps118
          go_wp2_with (first
            | (go_at_call 86; have _t := tok; refine HNS.out.mono ?_; rintro e w' ⟨rfl, rfl⟩; clear tok)
            | (go_at_call 86; refine HNT.out.mono ?_; rintro e w' ⟨rfl, rfl⟩)
            | (go_at_call 87; refine HF.out.mono ?_; rintro e w' ⟨rfl, rfl⟩; simp only [numI])
            | (go_at_call 126; go_must (refine (mchange_lit p S F [(s, none), (t, some i)] 2 w _ (Touch.refl _ _) HMD.out _ rfl rfl _ rfl HOK.out.now (ren_short HNTN.out) HOK.out.snow (by omega) (ren_bd (by omega)) HOK.out.pend).mono ?_); rintro e w4 ⟨rfl, h4, h5⟩; have HM4 := Lib.hid h4; have HT4 := Lib.hid h5; clear h4 h5))
          go_ret
          exact ⟨rfl, HM4.out, HT4.out⟩
end Go.Proofs.YtdmcjomcbhdcbaaGreat

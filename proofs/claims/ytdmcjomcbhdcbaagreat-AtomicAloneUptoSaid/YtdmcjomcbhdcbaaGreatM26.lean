/- The document's drive, walked: Loose, Image, Safe.; The document's drive, walked: what turns a body: Sync, Append, Flip, Cut.; The document's drive, walked: Cut and Flip. -/
import Derived.Test.YtdmcjomcbhdcbaaGreatM25
import Derived.Test.YtdmcjomcbhdcbaaGreatM16
import Derived.BigQuiet
import Derived.Deep.RegionLaw
import Derived.Laws.OwnMore
set_option linter.unusedVariables false
namespace Go.Proofs.YtdmcjomcbhdcbaaGreat
open Go.RowKit Go.Maps

theorem image_dents (S : Drv) : S.image = (dents S.now).map fun e => (e.1, (S.body e.2).data) := by unfold Drv.image dents; rw [List.map_map]; rfl
set_option maxRecDepth 100000 in
set_option maxHeartbeats 2000000 in
theorem mimage_any (p : Nat) (S : Drv) (F : Nat → Prop) (w : World) (hd : Md w p S F) (hS : MOk S) :
    Calls Tryz.prog 64 #[.pointer (some ⟨p, 0, none⟩)] w fun e w' => ∃ v, e = .returned v ∧ FilesAt w' w.heap.size v S.image ∧ Below w.heap.size w w' := by
  obtain ⟨L, h, hF⟩ := hd
  obtain ⟨iF, hiF, hz0, hz1, hz2⟩ := info_parts fileInfo
  obtain ⟨an, cn, hvn, _⟩ := own_shape h.rows.now
  have c2 : w.cell? ⟨p, 2, none⟩ = some (.slice an (dents S.now).length cn) := by have := h.head.cell 2; rw [this]; show some L.vn = _; rw [hvn]
  have c1 : w.cell? ⟨p, 1, none⟩ = some L.vb := h.head.cell 1
  have hrow := h.rows.now
  rw [hvn] at hrow
  have hpl := h.head.lt
  obtain ⟨n, hn⟩ : ∃ n, n = (dents S.now).length := ⟨_, rfl⟩
  rw [← hn] at c2 hrow
  have hnb : n ≤ 1099511627776 := by rw [hn, dents_length]; exact hS.snow
  have HN := Lib.hid hn.symm
  have HR := Lib.hid hrow
  have HH := Lib.hid h
  have HS := Lib.hid hS
  have HE := Lib.hid (dents_ents hS.now)
  have HIL : Hid (S.image.length = n) := Lib.hid (by rw [image_dents, List.length_map, hn])
  clear h hF hvn hrow hn hS
  go_enter Tryz.func64, Tryz.ntmps64
  go_wp2
  go_loopw [3, 4] (fun s i wr => ∃ k : Nat, k ≤ n ∧ i = .int .i64 k ∧ FilesAt wr w.heap.size s (S.image.take k) ∧ Below w.heap.size w wr) (fun _ i _ => n - (intOf i).toNat)
  case atStart => exact ⟨0, Nat.zero_le _, rfl, FilesAt.nil _ _, Below.refl _ _⟩
  case round =>
    obtain ⟨k, hk, rfl, ⟨vals, hvl, hown, hdat⟩, hbel⟩ := hrel
    have hszz : w.heap.size ≤ wr.heap.size := hbel.size
    have y2 : wr.cell? ⟨p, 2, none⟩ = some (.slice an n cn) := (hbel.cell (p := ⟨p, 2, none⟩) hpl).trans c2
    have hik : (S.image.take k).length = k := by rw [List.length_take, HIL.out]; omega
    rw [hik] at hown hvl
    obtain ⟨a3, c3, rfl, _⟩ := own_shape hown
    have HB := Lib.hid hbel
    by_cases hlt : k < n
    · obtain ⟨⟨t, i⟩, hti⟩ : ∃ x, (dents S.now)[k]? = some x := ⟨_, List.getElem?_eq_getElem (by rw [HN.out]; exact hlt)⟩
      obtain ⟨b, rfl, hbl, x1, x2⟩ := row_pair HR.out hti HN.out
      simp only [strV] at x1
      simp only [intZ] at x2
      have hi : i < S.bodies.length := HS.out.rlt t i (ents_get HE.out hti)
      obtain ⟨g, c, ad, cd, hv, hgl, hnc, hda, hcd, z1, z2, _⟩ := bod_get HH.out.rows hi
      have hnbl := HS.out.nb
      have hleni := HS.out.len i
      have hrd := HH.out.rows.data i hi
      rw [hda] at hrd
      have HRD : Hid (∀ W, Below w.heap.size w W → Reads W W.heap.size 1 ad (S.len i) ((S.body i).data.map B8)) := Lib.hid fun W hW => (((Reads.of_own hrd).below hW).more hW.size)
      obtain ⟨nb, hnb2⟩ : ∃ nb, nb = S.bodies.length := ⟨_, rfl⟩
      have y1 : wr.cell? ⟨p, 1, none⟩ = some (.slice (some ⟨g, 0, none⟩) nb c) := by rw [hnb2, ← hv]; exact (hbel.cell (p := ⟨p, 1, none⟩) hpl).trans c1
      have y0 : wr.cell? ⟨b, k * 2, none⟩ = some (.string ⟨t.toArray⟩) := (hbel.cell (p := ⟨b, k * 2, none⟩) hbl).trans x1
      have y3 : wr.cell? ⟨b, k * 2 + 1, none⟩ = some (.int .i64 i) := (hbel.cell (p := ⟨b, k * 2 + 1, none⟩) hbl).trans x2
      have y4 : wr.cell? ⟨g, i * 2, none⟩ = some (.slice ad (S.len i) cd) := (hbel.cell (p := ⟨g, i * 2, none⟩) hgl).trans z1
      rw [← hnb2] at hi hnc hnbl
      have hst : S.image.take (k + 1) = S.image.take k ++ [(t, (S.body i).data)] := take_snoc_ (by rw [image_dents, List.getElem?_map, hti]; rfl)
      have hi0 : (0 : Int) ≤ (i : Int) := by omega
      have hi1 : (i : Int) < (nb : Int) := by omega
      have hk0 : (0 : Int) ≤ (k : Int) := by omega
      have hk1 : (k : Int) < (n : Int) := by omega
      have HST := Lib.hid hst
      have HOWN := Lib.hid hown
      have HDAT := Lib.hid hdat
      have HVL := Lib.hid hvl
      have HIK := Lib.hid hik
      have HM63 : Hid (k + 1 ≤ maxLen) := Lib.hid (by simp only [maxLen]; omega)
      have HB40 : Hid ((k + 1) * 40 ≤ 140737488355328) := Lib.hid (by omega)
      have HLL : Hid (S.len i ≤ 140737488351232) := Lib.hid (by omega)
      obtain ⟨li, hli⟩ : ∃ li, li = S.len i := ⟨_, rfl⟩
      rw [← hli] at y4 HRD HLL
      have HLI := Lib.hid hli
      have HQ : Hid (∀ W, Below w.heap.size w W → W.cell? ⟨p, 2, none⟩ = some (.slice (some ⟨b, 0, none⟩) n cn) ∧ W.cell? ⟨p, 1, none⟩ = some (.slice (some ⟨g, 0, none⟩) nb c) ∧ W.cell? ⟨b, k * 2, none⟩ = some (.string ⟨t.toArray⟩) ∧ W.cell? ⟨b, k * 2 + 1, none⟩ = some (.int .i64 i) ∧ W.cell? ⟨g, i * 2, none⟩ = some (.slice ad li cd)) := Lib.hid fun W hW => ⟨(hW.cell (p := ⟨p, 2, none⟩) hpl).trans c2, by rw [hnb2, ← hv]; exact (hW.cell (p := ⟨p, 1, none⟩) hpl).trans c1, (hW.cell (p := ⟨b, k * 2, none⟩) hbl).trans x1, (hW.cell (p := ⟨b, k * 2 + 1, none⟩) hbl).trans x2, by rw [hli]; exact (hW.cell (p := ⟨g, i * 2, none⟩) hgl).trans z1⟩
      clear hown hdat hvl hbel x1 x2 hti hv hda z1 z2 hnb2 hst hik hrd hleni hli
      go_wp2
      go_region_held3 (fun w' => w'.cell? ⟨p, 2, none⟩ = some (.slice (some ⟨b, 0, none⟩) n cn) ∧ w'.cell? ⟨p, 1, none⟩ = some (.slice (some ⟨g, 0, none⟩) nb c) ∧ w'.cell? ⟨b, k * 2, none⟩ = some (.string ⟨t.toArray⟩) ∧ w'.cell? ⟨b, k * 2 + 1, none⟩ = some (.int .i64 i) ∧ w'.cell? ⟨g, i * 2, none⟩ = some (.slice ad li cd)) (first | go_keep | exact HQ.out _ HBW.out | exact HQ.out _ (HBA.out _) | exact HQ.out _ HBZ.out) ((first
        | (go_at_call 88; refine (copied_any ad li cd (S.body i).data _ (HRD.out _ (below_drewN HB.out _)) HLL.out).mono ?_; rintro e w2 ⟨v2, rfl, ho2, hb2⟩; obtain ⟨a2, c2', rfl, _⟩ := own_shape ho2; have HO2 : Hid (w2.ownsRow wr.heap.size 5 1 (.slice a2 li c2') li ((S.body i).data.map B8)) := Lib.hid ho2; have HB2 : Hid (Below wr.heap.size wr w2) := Lib.hid ⟨hb2.os, hb2.tape, hb2.output, hb2.size, hb2.block⟩; have hs2 : wr.heap.size ≤ w2.heap.size := hb2.size; have HBW : Hid (Below w.heap.size w w2) := Lib.hid (HB.out.trans (HB2.out.mono hszz)); have HBA : Hid (∀ o, Below w.heap.size w (w2.alloc o)) := Lib.hid (fun o => HBW.out.alloc (Nat.le_trans hszz hs2) o); clear ho2 hb2)
        | ((refine step_append_any _ rfl (.tmp 16) (.tmp 42) 22 rfl w.heap.size 75 iF _ 2 40 Tryz.underlying22 hiF hz0 hz1 hz2 rfl (by omega) _ k _ rfl ((ownsRow_below HOWN.out HB2.out).alloc _) (w2.heap.size + 1) (some ⟨w2.heap.size, 0, none⟩) 1 1 [.string ⟨t.toArray⟩, .slice a2 li c2'] rfl (by exact reads_blk (t := 75) (blk_last _ _ _ _ rfl) (by omega) rfl) (by intro u hu; simp at hu; rcases hu with rfl | rfl <;> rfl) HM63.out HB40.out (by rw [alloc_size]; omega) ?_); intro v3 w3 hown3 hg3 hat3; obtain ⟨a4, c4, rfl, _⟩ := own_shape hown3; have HOWN3 := Lib.hid hown3; have HG3 : Hid ((w2.alloc (.cells #[.string ⟨t.toArray⟩, .slice a2 li c2'] 75)).grownBy w3 (Value.slice a3 k c3).ownBlock) := Lib.hid hg3; have HBZ : Hid (Below w.heap.size w w3) := Lib.hid ((HBA.out _).grown hg3 (by rw [alloc_size]; omega) (fun q hq => (HOWN.out.lt q hq).1)); clear hown3 hg3 hat3)))
      all_goals (
        go_wp2
        go_roundw
        case rel =>
          have hdl : (S.body i).data.length = li := HLI.out.symm
          have hrow2 : w3.ownsRow w.heap.size 5 1 (.slice a2 li c2') li ((S.body i).data.map B8) :=
            ((ownsRow_base_a HO2.out hszz).alloc _).kept HG3.out (own_ne (w := w2.alloc (.cells #[.string ⟨t.toArray⟩, .slice a2 li c2'] 75)) (HO2.out.alloc _) ((ownsRow_below HOWN.out HB2.out).alloc _) (by decide))
          refine ⟨k + 1, by omega, by go_num, ?_, ?_⟩
          · rw [HST.out]
            refine FilesAt.snoc (vals := vals) (u := .slice a2 li c2') (by rw [HVL.out, HIK.out]) (fun k' f u hf hu => ?_) (by rw [HIK.out]; exact HOWN3.out) (by show w3.ownsRow _ _ _ _ (List.length ((S.body i).data)) _; rw [hdl]; exact hrow2)
            have := ownsRow_below (HDAT.out k' f u hf hu) HB2.out
            exact (this.alloc _).kept HG3.out (own_ne (w := w2.alloc (.cells #[.string ⟨t.toArray⟩, .slice a2 li c2'] 75)) (this.alloc _) ((ownsRow_below HOWN.out HB2.out).alloc _) (by decide))
          · exact HBZ.out
        case measure => simp [intOf]; omega)
    · go_wp2
      go_ret
      have hkn : k = n := by omega
      have hk2 : S.image.take k = S.image := List.take_of_length_le (by rw [HIL.out]; omega)
      rw [hk2] at hown hdat
      refine ⟨_, rfl, ⟨vals, by rw [hvl, hkn, HIL.out], ?_, hdat⟩, hbel⟩
      rw [HIL.out, ← hkn]; exact hown
end Go.Proofs.YtdmcjomcbhdcbaaGreat
namespace Go.Proofs.YtdmcjomcbhdcbaaGreat
open Go.RowKit Go.Maps

theorem row_in {w : World} {b1 s1 n1 b2 s2 n2 n3 c2 g : Nat} {e1 e2 : TypeId} {v1 : Value} {x1 x2 : List Value} (h : w.ownsRow b1 e1 s1 v1 n1 x1) (h2 : w.ownsRow b2 e2 s2 (.slice (some ⟨g, 0, none⟩) n2 c2) n2 x2) (hne : e1 ≠ e2) (j : Nat) (u : Value) : (w.setCell ⟨g, j, none⟩ u).ownsRow b1 e1 s1 v1 n1 x1 :=
  row_grown h h2 (h2.stored j u).2 hne
theorem bodCells_cons (v : Value) (vs : List Value) (b : Body) (bs : List Body) : bodCells (v :: vs) (b :: bs) = v :: intZ (b.safe : Int) :: bodCells vs bs := rfl
theorem bodCells_setd (d : Value) (dt : List UInt8) : ∀ (vals : List Value) (bs : List Body) (i : Nat), vals.length = bs.length → bodCells (vals.set i d) (bs.set i ⟨dt, (bs.getD i ⟨[], 0⟩).safe⟩) = (bodCells vals bs).set (i * 2) d
  | [], [], i, _ => rfl
  | [], b :: bs, i, h => by simp at h
  | v :: vs, [], i, h => by simp at h
  | v :: vs, b :: bs, 0, h => rfl
  | v :: vs, b :: bs, i + 1, h => by
    have h1 := bodCells_setd d dt vs bs i (by simpa using h)
    rw [List.set_cons_succ, List.set_cons_succ, bodCells_cons, bodCells_cons, show (i + 1) * 2 = i * 2 + 1 + 1 by omega, List.set_cons_succ, List.set_cons_succ, ← h1]; rfl
theorem bodCells_sets (n : Nat) (dt : List UInt8) : ∀ (vals : List Value) (bs : List Body) (i : Nat), vals.length = bs.length → bodCells vals (bs.set i ⟨dt, n⟩) = (bodCells vals bs).set (i * 2 + 1) (intZ (n : Int))
  | [], [], i, _ => rfl
  | [], b :: bs, i, h => by simp at h
  | v :: vs, [], i, h => by simp at h
  | v :: vs, b :: bs, 0, h => rfl
  | v :: vs, b :: bs, i + 1, h => by
    have h1 := bodCells_sets n dt vs bs i (by simpa using h)
    rw [List.set_cons_succ, bodCells_cons, bodCells_cons, show (i + 1) * 2 + 1 = i * 2 + 1 + 1 + 1 by omega, List.set_cons_succ, List.set_cons_succ, ← h1]

theorem body_set_same (S : Drv) {i : Nat} (hi : i < S.bodies.length) (B : Body) : (S.setBody i B).body i = B := by
  unfold Drv.setBody Drv.body; simp [List.getD, hi]
theorem body_set_other (S : Drv) {i j : Nat} (h : j ≠ i) (B : Body) : (S.setBody i B).body j = S.body j := by
  unfold Drv.setBody Drv.body; simp [List.getD, h.symm]

section
variable {w : World} {p g c i : Nat} {S : Drv} {L : MLay}
/-- Other bytes of a body. -/
theorem MdAt.setDat (h : MdAt w p S L) (hv : L.vb = .slice (some ⟨g, 0, none⟩) S.bodies.length c) (hi : i < S.bodies.length) {d : Value} {bs : List UInt8} {n : Nat} (hn : n = bs.length) (hd : w.ownsRow 0 5 1 d n (bs.map B8)) :
    MdAt (w.setCell ⟨g, i * 2, none⟩ d) p (S.setBody i ⟨bs, (S.body i).safe⟩) { L with dat := L.dat.set i d } := by
  subst hn
  have hrow := h.rows.bod
  rw [hv] at hrow
  have car : ∀ {base size n : Nat} {e : TypeId} {v : Value} {xs : List Value}, w.ownsRow base e size v n xs → e ≠ 161 → (w.setCell ⟨g, i * 2, none⟩ d).ownsRow base e size v n xs := fun h1 h2 => row_in (n3 := 0) h1 hrow h2 _ _
  refine ⟨?_, ?_⟩
  · have := blk_grown h.head hrow (hrow.stored (i * 2) d).2 (by decide)
    exact this
  · exact {
      bod := by
        have := (hrow.stored (i * 2) d).1
        show World.ownsRow _ _ _ _ L.vb (S.bodies.set i _).length (bodCells (L.dat.set i d) (S.bodies.set i _))
        rw [List.length_set, hv, show bodCells (L.dat.set i d) (S.bodies.set i ⟨bs, (S.body i).safe⟩) = _ from bodCells_setd d bs L.dat S.bodies i h.rows.ld]; exact this
      ld := by show (L.dat.set i d).length = (S.bodies.set i _).length; rw [List.length_set, List.length_set, h.rows.ld]
      data := fun j hj => by
        have hj' : j < S.bodies.length := by have e : (S.setBody i ⟨bs, (S.body i).safe⟩).bodies.length = S.bodies.length := List.length_set ..; rw [e] at hj; exact hj
        unfold Drv.len
        by_cases e : j = i
        · subst e
          rw [body_set_same S hi]
          have e2 : ({ L with dat := L.dat.set j d } : MLay).da j = d := by unfold MLay.da; simp [List.getD, h.rows.ld, hi]
          rw [e2]
          exact car hd (by decide)
        · rw [body_set_other S e]
          have e2 : ({ L with dat := L.dat.set i d } : MLay).da j = L.da j := by unfold MLay.da; simp [List.getD, Ne.symm e]
          rw [e2]
          exact car (h.rows.data j hj') (by decide)
      now := car h.rows.now (by decide)
      kept := car h.rows.kept (by decide)
      chs := car h.rows.chs (by decide)
      lc := h.rows.lc
      chg := fun j hj => car (h.rows.chg j hj) (by decide) }
theorem MdAt.setSafe (h : MdAt w p S L) (hv : L.vb = .slice (some ⟨g, 0, none⟩) S.bodies.length c) (hi : i < S.bodies.length) (n : Nat) :
    MdAt (w.setCell ⟨g, i * 2 + 1, none⟩ (.int .i64 n)) p (S.setBody i ⟨(S.body i).data, n⟩) L := by
  have hrow := h.rows.bod
  rw [hv] at hrow
  have car : ∀ {base size m : Nat} {e : TypeId} {v : Value} {xs : List Value}, w.ownsRow base e size v m xs → e ≠ 161 → (w.setCell ⟨g, i * 2 + 1, none⟩ (.int .i64 n)).ownsRow base e size v m xs := fun h1 h2 => row_in (n3 := 0) h1 hrow h2 _ _
  refine ⟨?_, ?_⟩
  · exact blk_grown h.head hrow (hrow.stored (i * 2 + 1) _).2 (by decide)
  · exact {
      bod := by
        have := (hrow.stored (i * 2 + 1) (.int .i64 n)).1
        show World.ownsRow _ _ _ _ L.vb (S.bodies.set i _).length (bodCells L.dat (S.bodies.set i _))
        rw [List.length_set, hv, bodCells_sets _ _ _ _ _ h.rows.ld]; exact this
      ld := by show L.dat.length = (S.bodies.set i _).length; rw [List.length_set, h.rows.ld]
      data := fun j hj => by
        have hj' : j < S.bodies.length := by have e : (S.setBody i ⟨(S.body i).data, n⟩).bodies.length = S.bodies.length := List.length_set ..; rw [e] at hj; exact hj
        have e2 : ((S.setBody i ⟨(S.body i).data, n⟩).body j).data = (S.body j).data := by
          by_cases e : j = i
          · subst e; rw [body_set_same S hi]
          · rw [body_set_other S e]
        unfold Drv.len
        rw [e2]
        exact car (h.rows.data j hj') (by decide)
      now := car h.rows.now (by decide)
      kept := car h.rows.kept (by decide)
      chs := car h.rows.chs (by decide)
      lc := h.rows.lc
      chg := fun j hj => car (h.rows.chg j hj) (by decide) }
/-- What it lies in, then. -/
theorem MLay.foot_dat {d : Value} {F : Nat → Prop} (hF : ∀ k, L.foot p k → F k) (hd : ∀ k, d.ownBlock = some k → F k) : ∀ k, ({ L with dat := L.dat.set i d } : MLay).foot p k → F k := by
  rintro k (hk | hk | hk | hk | hk | ⟨v, hv, hk⟩ | ⟨v, hv, hk⟩)
  · exact hF k (.inl hk)
  · exact hF k (.inr (.inl hk))
  · exact hF k (.inr (.inr (.inl hk)))
  · exact hF k (.inr (.inr (.inr (.inl hk))))
  · exact hF k (.inr (.inr (.inr (.inr (.inl hk)))))
  · rcases List.mem_or_eq_of_mem_set hv with hv | hv
    · exact hF k (.inr (.inr (.inr (.inr (.inr (.inl ⟨v, hv, hk⟩))))))
    · subst hv; exact hd k hk
  · exact hF k (.inr (.inr (.inr (.inr (.inr (.inr ⟨v, hv, hk⟩))))))
theorem bodies_nop (S : Drv) (i : Nat) : (S.setBody i (S.body i)).bodies = S.bodies := by
  have e : S.bodies.set i (S.body i) = S.bodies := by
    apply List.ext_getElem?
    intro j
    rw [List.getElem?_set]
    by_cases e : i = j
    · subst e
      rw [if_pos rfl]
      by_cases hl : i < S.bodies.length
      · rw [if_pos hl]; simp [Drv.body, List.getD, hl]
      · rw [if_neg hl]; rw [List.getElem?_eq_none (by omega)]
    · rw [if_neg e]
  exact e
theorem Md.nop {F : Nat → Prop} {i : Nat} (h : Md w p (S.setBody i (S.body i)) F) : Md w p S F := h.same rfl (bodies_nop S i).symm rfl rfl rfl
end

set_option maxRecDepth 100000 in
set_option maxHeartbeats 2000000 in
theorem msync_any (p : Nat) (S : Drv) (F : Nat → Prop) (s : Nm) (w : World) (hs : s.length ≤ maxLen) (hd : Md w p S F) (hS : MOk S) :
    Calls Tryz.prog 117 #[.pointer (some ⟨p, 0, none⟩), .string ⟨s.toArray⟩] w fun e w' => e = .returned (.int .i64 (S.sync s).2) ∧ Md w' p (S.sync s).1 (grow F w w') ∧ Touch F w w' := by
  have HA := Lib.hid (mat_any p S F s w hs hd hS.now hS.snow)
  have HD := Lib.hid hd
  obtain ⟨L, h, hF⟩ := hd
  rcases find_cases' S s with ⟨x, hx, hxx⟩ | ⟨i, hx, hg, _⟩
  · have HR : Hid (S.sync s = (S, x)) := by unfold Drv.sync; rw [hx]; exact rfl
    rw [HR.out]
    rw [hx] at HA
    simp only [numI] at HA
    have hne : (x != 0) = true := by rcases hxx with rfl | rfl <;> rfl
    clear hx hxx hS h hF
    go_enter Tryz.func117, Tryz.ntmps117
    go_wp2_with (go_at_call 98; refine HA.out.mono ?_; rintro e w' ⟨rfl, rfl⟩)
    go_ret
    exact ⟨rfl, HD.out.mono fun k hk => .inl hk, Touch.refl _ _⟩
  · have HR : Hid (S.sync s = (S.setBody i ⟨(S.body i).data, S.len i⟩, 0)) := by unfold Drv.sync; rw [hx]; exact rfl
    rw [HR.out]
    rw [hx] at HA
    simp only [numI] at HA
    have hi := hS.rlt s i hg
    obtain ⟨g, c, ad, cd, hv, hgl, hnc, hda, hcd, x1, x2, hfz⟩ := bod_get h.rows hi
    have c1 : w.cell? ⟨p, 1, none⟩ = some (.slice (some ⟨g, 0, none⟩) S.bodies.length c) := by have := h.head.cell 1; rw [this]; show some L.vb = _; rw [hv]
    have HH := Lib.hid h
    have HF := Lib.hid hF
    have HV := Lib.hid hv
    have HI := Lib.hid hi
    have HFG : Hid (F g) := Lib.hid (hF g (.inr (.inl (by rw [hv]; rfl))))
    have HMV : Hid (∀ W, Below w.heap.size w W → MdAt (W.setCell ⟨g, i * 2 + 1, none⟩ (.int .i64 (S.len i))) p (S.setBody i ⟨(S.body i).data, S.len i⟩) L) := Lib.hid fun W hW => (h.keep fun k hk => hW.block k (h.lt hk)).setSafe hv hi _
    obtain ⟨T, hT⟩ : ∃ T, T = S.setBody i ⟨(S.body i).data, S.len i⟩ := ⟨_, rfl⟩
    rw [← hT] at HMV ⊢
    have hlen := hS.len i
    obtain ⟨li, hli⟩ : ∃ li, li = S.len i := ⟨_, rfl⟩
    rw [← hli] at x1 hlen HMV
    obtain ⟨nb, hnb⟩ : ∃ nb, nb = S.bodies.length := ⟨_, rfl⟩
    have hnbl := hS.nb
    rw [← hnb] at c1 hi hnc hnbl
    have hi0 : (0 : Int) ≤ (i : Int) := by omega
    have hi1 : (i : Int) < (nb : Int) := by omega
    clear hx hg hS h hF hv hda hnb hT hli
    go_enter Tryz.func117, Tryz.ntmps117
    go_wp2_with (go_at_call 98; refine HA.out.mono ?_; rintro e w' ⟨rfl, rfl⟩)
    go_region
    all_goals
      go_wp2
      go_ret
      exact ⟨rfl, ⟨L, HMV.out _ (below_drewN (Below.refl _ w) 1), fun k hk => .inl (HF.out k hk)⟩, (Touch.drewN w 1).then_ (Touch.setCell _ _ _ HFG.out)⟩

set_option maxRecDepth 100000 in
set_option maxHeartbeats 4000000 in
theorem mappend_any (p : Nat) (S : Drv) (F : Nat → Prop) (s : Nm) (A : Option Addr) (n c0 : Nat) (bs : List UInt8) (w : World) (hs : s.length ≤ maxLen) (hd : Md w p S F) (hS : MOk S)
    (hused : S.used = (usedK S (dents S.now) : Nat)) (hu : usedK S (dents S.now) ≤ 1152921504606846976) (hroom : S.room ≤ 1073741824) (hn : n = bs.length) (hnl : n ≤ 1099511627776) (hA : Reads w w.heap.size 1 A n (bs.map B8)) :
    Calls Tryz.prog 116 #[.pointer (some ⟨p, 0, none⟩), .string ⟨s.toArray⟩, .slice A n c0] w fun e w' => e = .returned (.int .i64 (S.append s bs).2) ∧ Md w' p (S.append s bs).1 (grow F w w') ∧ Touch F w w' := by
  have HA := Lib.hid (mat_any p S F s w hs hd hS.now hS.snow)
  have HD := Lib.hid hd
  have HS := Lib.hid hS
  have HU := Lib.hid hu
  have HRA := Lib.hid hA
  obtain ⟨L, h, hF⟩ := hd
  rcases find_cases' S s with ⟨x, hx, hxx⟩ | ⟨i, hx, hg, _⟩
  · have HR : Hid (S.append s bs = (S, x)) := by unfold Drv.append; rw [hx]; exact rfl
    rw [HR.out]
    rw [hx] at HA
    simp only [numI] at HA
    have hne : (x != 0) = true := by rcases hxx with rfl | rfl <;> rfl
    clear hx hxx hS h hF hused hn hA hu
    go_enter Tryz.func116, Tryz.ntmps116
    go_wp2_with (go_at_call 98; refine HA.out.mono ?_; rintro e w' ⟨rfl, rfl⟩)
    go_ret
    exact ⟨rfl, HD.out.mono fun k hk => .inl hk, Touch.refl _ _⟩
  · rw [hx] at HA
    simp only [numI] at HA
    have hi := hS.rlt s i hg
    obtain ⟨g, c, ad, cd, hv, hgl, hnc, hda, hcd, x1, x2, hfz⟩ := bod_get h.rows hi
    have c0' : w.cell? ⟨p, 0, none⟩ = some (.int .i64 S.room) := h.head.cell 0
    have c1 : w.cell? ⟨p, 1, none⟩ = some (.slice (some ⟨g, 0, none⟩) S.bodies.length c) := by have := h.head.cell 1; rw [this]; show some L.vb = _; rw [hv]
    have hpl := h.head.lt
    have HH := Lib.hid h
    have HF := Lib.hid hF
    have HV := Lib.hid hv
    have HI := Lib.hid hi
    have HFG : Hid (F g) := Lib.hid (hF g (.inr (.inl (by rw [hv]; rfl))))
    have hlen := hS.len i
    have hrow := h.rows.data i hi
    rw [hda] at hrow
    have HRD : Hid (∀ W, Below w.heap.size w W → Reads W W.heap.size 1 ad (S.len i) ((S.body i).data.map B8)) := Lib.hid fun W hW => (((Reads.of_own hrow).below hW).more hW.size)
    have HRB : Hid (∀ W, Below w.heap.size w W → Reads W w.heap.size 1 A n (bs.map B8)) := Lib.hid fun W hW => hA.below hW
    obtain ⟨li, hli⟩ : ∃ li, li = S.len i := ⟨_, rfl⟩
    rw [← hli] at x1 hlen HRD
    have HLI := Lib.hid hli
    obtain ⟨nb, hnb⟩ : ∃ nb, nb = S.bodies.length := ⟨_, rfl⟩
    have HNB := Lib.hid hnb
    have hnbl := hS.nb
    rw [← hnb] at c1 hi hnc hnbl
    obtain ⟨rm, hrm⟩ : ∃ rm, rm = S.room := ⟨_, rfl⟩
    rw [← hrm] at c0' hroom
    obtain ⟨u, hu'⟩ : ∃ u, u = usedK S (dents S.now) := ⟨_, rfl⟩
    rw [← hu'] at hu hused
    have HUE := Lib.hid hu'
    have hi0 : (0 : Int) ≤ (i : Int) := by omega
    have hi1 : (i : Int) < (nb : Int) := by omega
    obtain ⟨iB, hiB, hz0, hz1, hz2⟩ := info_parts byteInfo
    have HONE : Hid (∀ v ∈ bs.map B8, v.oneCell' = true) := Lib.hid (by intro v hv; simp only [List.mem_map] at hv; obtain ⟨b, _, rfl⟩ := hv; rfl)
    have HM63 : Hid (li + n ≤ maxLen) := Lib.hid (by simp only [maxLen]; omega)
    have HM40 : Hid ((li + n) * 1 ≤ 140737488355328) := Lib.hid (by omega)
    have HN := Lib.hid hn
    have tail : ∀ W, (∃ m, W = w.drewN m) → ∀ (v : Value) (w2 : World), w2.ownsRow w.heap.size 5 1 v (li + n) ((S.body i).data.map B8 ++ bs.map B8) → Below w.heap.size w w2 →
        Md (w2.setCell ⟨g, i * 2, none⟩ v) p (S.setBody i ⟨(S.body i).data ++ bs, (S.body i).safe⟩) (grow F w (w2.setCell ⟨g, i * 2, none⟩ v)) ∧ Touch F w (w2.setCell ⟨g, i * 2, none⟩ v) := by
      rintro W - v w2 hv2 hb2
      have h2 : MdAt w2 p S L := HH.out.keep fun k hk => hb2.block k (HH.out.lt hk)
      have h3 := h2.setDat HV.out (by rw [← HNB.out]; exact hi) (d := v) (bs := (S.body i).data ++ bs) (n := li + n) (by rw [List.length_append, ← HN.out, HLI.out]; rfl) (by rw [List.map_append]; exact ownsRow_base_a hv2 (Nat.zero_le _))
      have ht : Touch F w (w2.setCell ⟨g, i * 2, none⟩ v) := (Touch.of_below hb2).then_ (Touch.setCell _ _ _ HFG.out)
      refine ⟨⟨_, h3, ?_⟩, ht⟩
      refine MLay.foot_dat (fun k hk => .inl (HF.out k hk)) fun k hk => .inr ?_
      have := hv2.lt k hk
      rw [size_set']
      exact this
    have TAIL := Lib.hid tail
    have HPG : Hid (p ≠ g) := Lib.hid fun e => by
      have hb := HH.out.rows.bod
      rw [HV.out] at hb
      exact own_blk_ne hb HH.out.head (by decide) (by rw [e]; rfl)
    have MU : Hid (∀ W, Below w.heap.size w W → Calls Tryz.prog 127 #[.pointer (some ⟨p, 0, none⟩)] W fun e w' => e = .returned (.int .i64 u) ∧ ∃ n, w' = W.drewN n) := Lib.hid fun W hW => by rw [hu']; exact mused_any p S F W (HD.out.below hW) HS.out HU.out
    have hw1 : IntKind.i64.wrap ((u : Int) + (n : Int)) = (u : Int) + (n : Int) := IntWalk.i64_in _ (by omega)
    have HR0 : Hid (bs = [] → S.append s bs = (S, 0)) := Lib.hid fun e => by unfold Drv.append; rw [hx]; simp only; rw [if_pos e]
    have HR1 : Hid (bs ≠ [] → (rm : Int) < (u : Int) + (n : Int) → S.append s bs = (S, 111)) := Lib.hid fun e e2 => by unfold Drv.append; rw [hx]; simp only; rw [if_neg e, if_pos (by rw [← hrm, hused, ← hn]; exact e2)]
    have HR2 : Hid (bs ≠ [] → ¬ (rm : Int) < (u : Int) + (n : Int) → S.append s bs = ({ S.setBody i ⟨(S.body i).data ++ bs, (S.body i).safe⟩ with used := S.used + bs.length }, 0)) := Lib.hid fun e e2 => by unfold Drv.append; rw [hx]; simp only; rw [if_neg e, if_neg (by rw [← hrm, hused, ← hn]; exact e2)]
    clear tail hx hg hS h hF hv hda hnb hli hrow hA hrm hu' hn hused
    have key : n = 0 ∨ (0 < n ∧ (decide ((rm : Int) < (u : Int) + (n : Int)) = true ∨ decide ((rm : Int) < (u : Int) + (n : Int)) = false)) := by
      rcases Nat.eq_zero_or_pos n with h0 | h0
      · exact .inl h0
      · refine .inr ⟨h0, ?_⟩
        cases decide ((rm : Int) < (u : Int) + (n : Int)) <;> simp
    go_enter Tryz.func116, Tryz.ntmps116
    rcases key with h0 | ⟨h0, t1 | t1⟩
    · subst h0
      have HB : Hid (bs = []) := Lib.hid (List.length_eq_zero_iff.1 HN.out.symm)
      rw [HR0.out HB.out]
      go_wp2_with (go_at_call 98; refine HA.out.mono ?_; rintro e w' ⟨rfl, rfl⟩)
      go_quiet (fail)
      refine exit_world fun W hW => ?_
      have HW : Hid (∃ m, W = w.drewN m) := Lib.hid (by rw [hW]; exact ⟨_, rfl⟩)
      have hBW : Below w.heap.size w W := by obtain ⟨m, e⟩ := HW.out; rw [e]; exact below_drewN (Below.refl _ _) m
      have HBW := Lib.hid hBW
      have z1 : W.cell? ⟨p, 1, none⟩ = some (.slice (some ⟨g, 0, none⟩) nb c) := (hBW.cell (p := ⟨p, 1, none⟩) hpl).trans c1
      have z2 : W.cell? ⟨g, i * 2, none⟩ = some (.slice ad li cd) := (hBW.cell (p := ⟨g, i * 2, none⟩) hgl).trans x1
      have hWs : w.heap.size ≤ W.heap.size := hBW.size
      have HQ : Hid (∀ V, Below w.heap.size w V → V.cell? ⟨p, 1, none⟩ = some (.slice (some ⟨g, 0, none⟩) nb c)) := Lib.hid fun V hV => (hV.cell (p := ⟨p, 1, none⟩) hpl).trans c1
      have HQS : Hid (∀ V v, Below w.heap.size w V → (V.setCell ⟨g, i * 2, none⟩ v).cell? ⟨p, 1, none⟩ = some (.slice (some ⟨g, 0, none⟩) nb c)) := Lib.hid fun V v hV => (World.cell?_of_block (Below.heap_setCell V ⟨g, i * 2, none⟩ v p HPG.out)).trans (HQ.out V hV)
      have HX1 : Hid (∀ V, Below w.heap.size w V → V.cell? ⟨g, i * 2, none⟩ = some (.slice ad li cd)) := Lib.hid fun V hV => (hV.cell (p := ⟨g, i * 2, none⟩) hgl).trans x1
      have HFR : Hid (∀ V, Below w.heap.size w V → ∀ j, V.frozen? ⟨g, j, none⟩ = false) := Lib.hid fun V hV j => by rw [World.frozen?_of_block (hV.block g hgl)]; exact hfz j
      clear hW hBW
      go_wp2
      go_region_law ((first
        | (go_simp; go_at_call 88; (refine (copied_any ad li cd (S.body i).data _ (HRD.out _ (below_drewN HBW.out _)) (by omega)).mono ?_); rintro e w2 ⟨v2, rfl, ho2, hb2⟩; obtain ⟨a2, c2', rfl, _⟩ := own_shape ho2; have HO2 : Hid (w2.ownsRow W.heap.size 5 1 (.slice a2 li c2') li ((S.body i).data.map B8)) := Lib.hid ho2; have HB2 : Hid (Below w.heap.size w w2) := Lib.hid (HBW.out.trans ((⟨hb2.os, hb2.tape, hb2.output, hb2.size, hb2.block⟩ : Below W.heap.size W w2).mono hWs)); have v1 := HQ.out _ HB2.out; clear ho2 hb2)
        | ((refine step_append_any _ rfl (.tmp 46) (.tmp 47) 26 rfl w.heap.size 5 iB _ 1 1 Tryz.underlying26 hiB hz0 hz1 hz2 rfl (by omega) (.slice a2 li c2') li _ (by rfl) (ownsRow_base_a HO2.out hWs) w.heap.size A 0 c0 (bs.map B8) (by rfl) (HRB.out _ HB2.out) HONE.out HM63.out HM40.out (by have := HB2.out.size; omega) ?_); intro v3 w3 hown3 hg3 hat3; obtain ⟨a4, c4, rfl, _⟩ := own_shape hown3; have HO3 := Lib.hid hown3; have HB3 : Hid (Below w.heap.size w w3) := Lib.hid (HB2.out.grown hg3 HB2.out.size (fun q hq => Nat.le_trans hWs (HO2.out.lt q hq).1)); have hf3 := HFR.out _ HB3.out; have hg3' : g < w3.heap.size := (by have := HB3.out.size; omega); have y3 := HX1.out _ HB3.out; have y4 := HQ.out _ HB3.out; clear hown3 hg3 hat3)
        | fail))
      all_goals
        refine exit_world fun V hV => ?_
        have HT := Lib.hid (TAIL.out W HW.out (.slice a4 li c4) w3 (by have := HO3.out; exact this) HB3.out)
        rw [← hV] at HT
        clear hV
        go_wp2
        go_ret
        exact ⟨rfl, (by have h1 := HT.out.1; rw [HB.out, List.append_nil] at h1; exact h1.nop), HT.out.2⟩
    · have HB : Hid (bs ≠ []) := Lib.hid fun e => by have := HN.out; rw [e] at this; simp at this; omega
      rw [HR1.out HB.out (of_decide_eq_true t1)]
      go_wp2_with (go_at_call 98; refine HA.out.mono ?_; rintro e w' ⟨rfl, rfl⟩)
      go_quiet ((go_at_call 127; exact Calls.quiet_of (MU.out _ (below_drewN (Below.refl _ _) _))))
      go_wp2
      go_ret
      exact ⟨rfl, (HD.out.below (below_drewN (Below.refl _ _) _)).mono fun k hk => .inl hk, Touch.drewN w _⟩
    · have HB : Hid (bs ≠ []) := Lib.hid fun e => by have := HN.out; rw [e] at this; simp at this; omega
      rw [HR2.out HB.out (of_decide_eq_false t1)]
      go_wp2_with (go_at_call 98; refine HA.out.mono ?_; rintro e w' ⟨rfl, rfl⟩)
      go_quiet ((go_at_call 127; exact Calls.quiet_of (MU.out _ (below_drewN (Below.refl _ _) _))))
      refine exit_world fun W hW => ?_
      have HW : Hid (∃ m, W = w.drewN m) := Lib.hid (by rw [hW]; exact ⟨_, rfl⟩)
      have hBW : Below w.heap.size w W := by obtain ⟨m, e⟩ := HW.out; rw [e]; exact below_drewN (Below.refl _ _) m
      have HBW := Lib.hid hBW
      have z1 : W.cell? ⟨p, 1, none⟩ = some (.slice (some ⟨g, 0, none⟩) nb c) := (hBW.cell (p := ⟨p, 1, none⟩) hpl).trans c1
      have z2 : W.cell? ⟨g, i * 2, none⟩ = some (.slice ad li cd) := (hBW.cell (p := ⟨g, i * 2, none⟩) hgl).trans x1
      have hWs : w.heap.size ≤ W.heap.size := hBW.size
      have HQ : Hid (∀ V, Below w.heap.size w V → V.cell? ⟨p, 1, none⟩ = some (.slice (some ⟨g, 0, none⟩) nb c)) := Lib.hid fun V hV => (hV.cell (p := ⟨p, 1, none⟩) hpl).trans c1
      have HQS : Hid (∀ V v, Below w.heap.size w V → (V.setCell ⟨g, i * 2, none⟩ v).cell? ⟨p, 1, none⟩ = some (.slice (some ⟨g, 0, none⟩) nb c)) := Lib.hid fun V v hV => (World.cell?_of_block (Below.heap_setCell V ⟨g, i * 2, none⟩ v p HPG.out)).trans (HQ.out V hV)
      have HX1 : Hid (∀ V, Below w.heap.size w V → V.cell? ⟨g, i * 2, none⟩ = some (.slice ad li cd)) := Lib.hid fun V hV => (hV.cell (p := ⟨g, i * 2, none⟩) hgl).trans x1
      have HFR : Hid (∀ V, Below w.heap.size w V → ∀ j, V.frozen? ⟨g, j, none⟩ = false) := Lib.hid fun V hV j => by rw [World.frozen?_of_block (hV.block g hgl)]; exact hfz j
      clear hW hBW
      go_wp2
      go_region_law ((first
        | (go_simp; go_at_call 88; (refine (copied_any ad li cd (S.body i).data _ (HRD.out _ (below_drewN HBW.out _)) (by omega)).mono ?_); rintro e w2 ⟨v2, rfl, ho2, hb2⟩; obtain ⟨a2, c2', rfl, _⟩ := own_shape ho2; have HO2 : Hid (w2.ownsRow W.heap.size 5 1 (.slice a2 li c2') li ((S.body i).data.map B8)) := Lib.hid ho2; have HB2 : Hid (Below w.heap.size w w2) := Lib.hid (HBW.out.trans ((⟨hb2.os, hb2.tape, hb2.output, hb2.size, hb2.block⟩ : Below W.heap.size W w2).mono hWs)); have v1 := HQ.out _ HB2.out; clear ho2 hb2)
        | ((refine step_append_any _ rfl (.tmp 46) (.tmp 47) 26 rfl w.heap.size 5 iB _ 1 1 Tryz.underlying26 hiB hz0 hz1 hz2 rfl (by omega) (.slice a2 li c2') li _ (by rfl) (ownsRow_base_a HO2.out hWs) w.heap.size A n c0 (bs.map B8) (by rfl) (HRB.out _ HB2.out) HONE.out HM63.out HM40.out (by have := HB2.out.size; omega) ?_); intro v3 w3 hown3 hg3 hat3; obtain ⟨a4, c4, rfl, _⟩ := own_shape hown3; have HO3 := Lib.hid hown3; have HB3 : Hid (Below w.heap.size w w3) := Lib.hid (HB2.out.grown hg3 HB2.out.size (fun q hq => Nat.le_trans hWs (HO2.out.lt q hq).1)); have hf3 := HFR.out _ HB3.out; have hg3' : g < w3.heap.size := (by have := HB3.out.size; omega); have y3 := HX1.out _ HB3.out; have y4 := HQ.out _ HB3.out; clear hown3 hg3 hat3)
        | fail))
      all_goals
        refine exit_world fun V hV => ?_
        have HT := Lib.hid (TAIL.out W HW.out (.slice a4 (li + n) c4) w3 (by have := HO3.out; exact this) HB3.out)
        rw [← hV] at HT
        clear hV
        go_wp2
        go_ret
        exact ⟨rfl, HT.out.1.same rfl rfl rfl rfl rfl, HT.out.2⟩
end Go.Proofs.YtdmcjomcbhdcbaaGreat
namespace Go.Proofs.YtdmcjomcbhdcbaaGreat
open Go.RowKit Go.Maps

set_option maxRecDepth 100000 in
set_option maxHeartbeats 4000000 in
theorem mcut_any (p : Nat) (S : Drv) (F : Nat → Prop) (s : Nm) (n : Int) (w : World) (hs : s.length ≤ maxLen) (hd : Md w p S F) (hS : MOk S) (hsf : ∀ i, (S.body i).safe ≤ S.len i) :
    Calls Tryz.prog 68 #[.pointer (some ⟨p, 0, none⟩), .string ⟨s.toArray⟩, .int .i64 n] w fun e w' => e = .returned (.int .i64 (S.cut s n).2) ∧ Md w' p (S.cut s n).1 (grow F w w') ∧ Touch F w w' := by
  have HA := Lib.hid (mat_any p S F s w hs hd hS.now hS.snow)
  have HNM := Lib.hid (mnamed_nm s w hs)
  have HD := Lib.hid hd
  obtain ⟨L, h, hF⟩ := hd
  cases hn : named s with
  | false =>
    rw [hn] at HNM
    have HR : Hid (S.cut s n = (S, 91)) := by unfold Drv.cut; rw [if_neg (by rw [hn]; simp)]; have : S.find s = (none, 91) := by { unfold Drv.find; rw [hn]; rfl }; rw [this]; exact rfl
    rw [HR.out]
    clear hn h hF hS hsf
    go_enter Tryz.func68, Tryz.ntmps68
    go_wp2_with (go_at_call 86; refine HNM.out.mono ?_; rintro e w' ⟨rfl, rfl⟩)
    go_ret
    exact ⟨rfl, HD.out.mono fun k hk => .inl hk, Touch.refl _ _⟩
  | true =>
    rw [hn] at HNM
    by_cases hneg : n < 0
    · have HR : Hid (S.cut s n = (S, 2)) := by unfold Drv.cut; rw [if_pos ⟨hn, hneg⟩]; exact rfl
      rw [HR.out]
      clear hn h hF hS hsf
      go_enter Tryz.func68, Tryz.ntmps68
      go_wp2_with (go_at_call 86; refine HNM.out.mono ?_; rintro e w' ⟨rfl, rfl⟩)
      go_ret
      exact ⟨rfl, HD.out.mono fun k hk => .inl hk, Touch.refl _ _⟩
    · have hR0 : S.cut s n = match S.find s with | (none, e) => (S, e) | (some i, _) => if (S.len i : Int) ≤ n then (S, 0) else (S.cutTo i n.toNat, 0) := by unfold Drv.cut; rw [if_neg (fun h => hneg h.2)]; rfl
      rcases find_cases' S s with ⟨x, hx, hxx⟩ | ⟨i, hx, hg, _⟩
      · have HR : Hid (S.cut s n = (S, x)) := by rw [Hid, hR0, hx]
        rw [HR.out]
        rw [hx] at HA
        simp only [numI] at HA
        have hne : (x != 0) = true := by rcases hxx with rfl | rfl <;> rfl
        clear hx hxx hS h hF hn hR0 hsf
        go_enter Tryz.func68, Tryz.ntmps68
        go_wp2_with (first
          | (go_at_call 86; refine HNM.out.mono ?_; rintro e w' ⟨rfl, rfl⟩)
          | (go_at_call 98; refine HA.out.mono ?_; rintro e w' ⟨rfl, rfl⟩))
        go_ret
        exact ⟨rfl, HD.out.mono fun k hk => .inl hk, Touch.refl _ _⟩
      · obtain ⟨m, rfl⟩ := Int.eq_ofNat_of_zero_le (Int.not_lt.1 hneg)
        rw [hx] at HA
        simp only [numI] at HA
        have hi := hS.rlt s i hg
        obtain ⟨g, c, ad, cd, hv, hgl, hnc, hda, hcd, x1, x2, hfz⟩ := bod_get h.rows hi
        have c1 : w.cell? ⟨p, 1, none⟩ = some (.slice (some ⟨g, 0, none⟩) S.bodies.length c) := by have := h.head.cell 1; rw [this]; show some L.vb = _; rw [hv]
        have hpl := h.head.lt
        have hlen := hS.len i
        have hsi := hsf i
        have hrow := h.rows.data i hi
        rw [hda] at hrow
        obtain ⟨li, hli⟩ : ∃ li, li = S.len i := ⟨_, rfl⟩
        obtain ⟨sf, hsf'⟩ : ∃ sf, sf = (S.body i).safe := ⟨_, rfl⟩
        rw [← hli] at x1 hlen hsi hcd
        rw [← hsf'] at x2 hsi
        obtain ⟨nb, hnb⟩ : ∃ nb, nb = S.bodies.length := ⟨_, rfl⟩
        have hnbl := hS.nb
        rw [← hnb] at c1 hi hnc hnbl
        have hi0 : (0 : Int) ≤ (i : Int) := by omega
        have hi1 : (i : Int) < (nb : Int) := by omega
        by_cases hge : li ≤ m
        · have HR : Hid (S.cut s m = (S, 0)) := by rw [Hid, hR0, hx]; simp only; rw [if_pos (by rw [← hli]; omega)]
          rw [HR.out]
          have t1 : ¬ m < li := by omega
          have t2 : ¬ m < sf := by omega
          clear hx hg hS h hF hv hda hnb hn hR0 hsf hli hsf' hrow hge hneg
          go_enter Tryz.func68, Tryz.ntmps68
          go_wp2_with (first
            | (go_at_call 86; refine HNM.out.mono ?_; rintro e w' ⟨rfl, rfl⟩)
            | (go_at_call 98; refine HA.out.mono ?_; rintro e w' ⟨rfl, rfl⟩))
          go_ret
          exact ⟨rfl, HD.out.mono fun k hk => .inl hk, Touch.refl _ _⟩
        · have HR : Hid (S.cut s m = (S.cutTo i m, 0)) := by rw [Hid, hR0, hx]; simp only; rw [if_neg (by rw [← hli]; omega)]; rfl
          rw [HR.out]
          have HH := Lib.hid h
          have HFF := Lib.hid hF
          have HV := Lib.hid hv
          have HFG : Hid (F g) := Lib.hid (hF g (.inr (.inl (by rw [hv]; rfl))))
          have HNB := Lib.hid hnb
          have HRD : Hid (∀ W, Below w.heap.size w W → Reads W W.heap.size 1 ad m (((S.body i).data.take m).map B8)) := Lib.hid fun W hW => by
            have := (((Reads.of_own hrow).cutTo (m := m) (by omega)).below hW).more hW.size
            rw [← List.map_take] at this; exact this
          have HTL : Hid (m = ((S.body i).data.take m).length) := Lib.hid (by rw [List.length_take]; have : (S.body i).data.length = S.len i := rfl; omega)
          have HQ : Hid (∀ V, Below w.heap.size w V → V.cell? ⟨p, 1, none⟩ = some (.slice (some ⟨g, 0, none⟩) nb c)) := Lib.hid fun V hV => (hV.cell (p := ⟨p, 1, none⟩) hpl).trans c1
          have HFR : Hid (∀ V, Below w.heap.size w V → ∀ j, V.frozen? ⟨g, j, none⟩ = false) := Lib.hid fun V hV j => by rw [World.frozen?_of_block (hV.block g hgl)]; exact hfz j
          have HPG : Hid (p ≠ g) := Lib.hid fun e => by
            have hb := h.rows.bod
            rw [hv] at hb
            exact own_blk_ne hb h.head (by decide) (by rw [e]; rfl)
          have HQS : Hid (∀ V v, Below w.heap.size w V → (V.setCell ⟨g, i * 2, none⟩ v).cell? ⟨p, 1, none⟩ = some (.slice (some ⟨g, 0, none⟩) nb c)) := Lib.hid fun V v hV => (World.cell?_of_block (Below.heap_setCell V ⟨g, i * 2, none⟩ v p HPG.out)).trans (HQ.out V hV)
          have HX1 : Hid (∀ V, Below w.heap.size w V → V.cell? ⟨g, i * 2, none⟩ = some (.slice ad li cd)) := Lib.hid fun V hV => (hV.cell (p := ⟨g, i * 2, none⟩) hgl).trans x1
          have HX2 := Lib.hid (fun V (hV : Below w.heap.size w V) => (hV.cell (p := ⟨g, i * 2 + 1, none⟩) hgl).trans x2)
          have hml : m < li := by omega
          have hs0 : (0 : Int) ≤ (m : Int) := by omega
          have hs1 : (m : Int) ≤ (cd : Int) := by omega
          have HSF := Lib.hid hsf'
          clear hx hg hS h hF hv hda hnb hn hR0 hsf hli hsf' hrow hge hneg
          go_enter Tryz.func68, Tryz.ntmps68
          go_wp2_with (first
            | (go_at_call 86; refine HNM.out.mono ?_; rintro e w' ⟨rfl, rfl⟩)
            | (go_at_call 98; refine HA.out.mono ?_; rintro e w' ⟨rfl, rfl⟩))
          refine wp_region_held_drew (S := (fun w' => w'.cell? ⟨p, 1, none⟩ = some (.slice (some ⟨g, 0, none⟩) nb c))) (by kernel_rfl) ?_ (fun hHeld => ?_)
          · ((try dsimp only); (first | go_keep | exact HQ.out _ HB2.out | exact HQS.out _ _ HB2.out))
          refine wpAnyH_take (i := 0) (oi := _) (v := ?_) rfl (by kernel_rfl) (by kernel_rfl) (by kernel_rfl) (fun _ _ _ h => h) (Or.inl ⟨by rfl, ?_⟩) (by assumption) ?_
          rotate_left
          · (intro wS hSw; (try dsimp only at hSw); go_simp; try with_reducible rfl)
          try simp only [Act.put, List.setIfInBounds_toArray]
          refine wpAnyH_take (i := 1) (oi := _) (v := ?_) rfl (by kernel_rfl) (by kernel_rfl) (by kernel_rfl) (fun _ _ _ h => h) (Or.inl ⟨by rfl, ?_⟩) (by assumption) ?_
          rotate_left
          · (intro wS hSw; (try dsimp only at hSw); go_simp; try with_reducible rfl)
          try simp only [Act.put]
          refine wpAnyH_take (i := 2) (oi := _) (v := ?_) rfl (by kernel_rfl) (by kernel_rfl) (by kernel_rfl) (fun _ _ _ h => h) (Or.inl ⟨by rfl, ?_⟩) (by assumption) ?_
          rotate_left
          · (intro wS hSw; (try dsimp only at hSw); go_simp; try with_reducible rfl)
          try simp only [Act.put]
          refine wpAnyH_take (i := 3) (oi := _) (v := ?_) rfl (by kernel_rfl) (by kernel_rfl) (by kernel_rfl) (fun _ _ _ h => h) (Or.inl ⟨by rfl, ?_⟩) (by assumption) ?_
          rotate_left
          · (intro wS hSw; (try dsimp only at hSw); go_simp; try with_reducible rfl)
          try simp only [Act.put]
          refine wpAnyH_take (i := 4) (oi := _) (v := ?_) rfl (by kernel_rfl) (by kernel_rfl) (by kernel_rfl) (fun _ _ _ h => h) (Or.inl ⟨by rfl, ?_⟩) (by assumption) ?_
          rotate_left
          · (intro wS hSw; (try dsimp only at hSw); go_simp; try with_reducible rfl)
          try simp only [Act.put]
          refine wpAnyH_take (i := 5) (oi := _) (v := ?_) rfl (by kernel_rfl) (by kernel_rfl) (by kernel_rfl) (fun _ _ _ h => h) (Or.inl ⟨by rfl, ?_⟩) (by assumption) ?_
          rotate_left
          · (intro wS hSw; (try dsimp only at hSw); go_simp; try with_reducible rfl)
          try simp only [Act.put]
          refine wpAnyH_take (i := 6) (oi := _) (v := ?_) rfl (by kernel_rfl) (by kernel_rfl) (by kernel_rfl) (fun _ _ _ h => h) (Or.inl ⟨by rfl, ?_⟩) (by assumption) ?_
          rotate_left
          · (intro wS hSw; (try dsimp only at hSw); go_simp; try with_reducible rfl)
          try simp only [Act.put]
          refine wpAnyH_take (i := 7) (oi := _) (v := ?_) rfl (by kernel_rfl) (by kernel_rfl) (by kernel_rfl) (fun _ _ _ h => h) (Or.inl ⟨by rfl, ?_⟩) (by assumption) ?_
          rotate_left
          · (intro wS hSw; (try dsimp only at hSw); go_simp; try with_reducible rfl)
          try simp only [Act.put]
          refine wpAnyH_take (i := 8) (oi := _) (v := ?_) rfl (by kernel_rfl) (by kernel_rfl) (by kernel_rfl) (fun _ _ _ h => h) (Or.inl ⟨by rfl, ?_⟩) (by assumption) ?_
          rotate_left
          · (intro wS hSw; (try dsimp only at hSw); go_simp; try with_reducible rfl)
          try simp only [Act.put]
          refine wpAnyH_take (i := 9) (oi := _) (v := ?_) rfl (by kernel_rfl) (by kernel_rfl) (by kernel_rfl) (fun _ _ _ h => h) (Or.inl ⟨by rfl, ?_⟩) (by assumption) ?_
          rotate_left
          · (intro wS hSw; (try dsimp only at hSw); go_simp; try with_reducible rfl)
          try simp only [Act.put]
          refine wpAnyH_take (i := 10) (oi := _) (v := ?_) rfl (by kernel_rfl) (by kernel_rfl) (by kernel_rfl) (fun _ _ _ h => h) (Or.inl ⟨by rfl, ?_⟩) (by assumption) ?_
          rotate_left
          · (intro wS hSw; (try dsimp only at hSw); go_simp; try with_reducible rfl)
          try simp only [Act.put]
          refine wpAnyH_take (i := 11) (oi := _) (v := ?_) rfl (by kernel_rfl) (by kernel_rfl) (by kernel_rfl) (fun _ _ _ h => h) (Or.inl ⟨by rfl, ?_⟩) (by assumption) ?_
          rotate_left
          · (intro wS hSw; (try dsimp only at hSw); go_simp; try with_reducible rfl)
          try simp only [Act.put]
          refine wpAnyH_take (i := 13) (oi := _) (v := ?_) rfl (by kernel_rfl) (by kernel_rfl) (by kernel_rfl) (fun _ _ _ h => h) (Or.inl ⟨by rfl, ?_⟩) (by assumption) ?_
          rotate_left
          · (intro wS hSw; (try dsimp only at hSw); go_simp; try with_reducible rfl)
          try simp only [Act.put]
          refine wpAnyH_ready (rs := [12]) (by kernel_rfl) (by simp) (AllReadyH.cons (o := _) rfl (fun K hK => ?b1y1x12) AllReadyH.nil)
          go_simp
          refine hK.out _ _ ?_ (fun hHeld => ?_)
          · ((try dsimp only); (first | go_keep | exact HQ.out _ HB2.out | exact HQS.out _ _ HB2.out))
          clear hK K; try simp only [Act.put, List.setIfInBounds_toArray, List.set_cons_zero, List.set_cons_succ]
          refine wpAnyH_take (i := 14) (oi := _) (v := ?_) rfl (by kernel_rfl) (by kernel_rfl) (by kernel_rfl) (fun _ _ _ h => h) (Or.inl ⟨by rfl, ?_⟩) (by assumption) ?_
          rotate_left
          · (intro wS hSw; (try dsimp only at hSw); go_simp; try with_reducible rfl)
          try simp only [Act.put, List.setIfInBounds_toArray]
          refine wpAnyH_ready (rs := [15]) (by kernel_rfl) (by simp) (AllReadyH.cons (o := _) rfl (fun K hK => ?b1y2x15) AllReadyH.nil)
          go_simp; go_at_call 88; (refine (copied_any ad m cd ((S.body i).data.take m) _ (HRD.out _ (below_drew1 (Below.refl _ _))) (by omega)).mono ?_); rintro e w2 ⟨v2, rfl, ho2, hb2⟩; obtain ⟨a2, c2', rfl, _⟩ := own_shape ho2; have HO2 : Hid (w2.ownsRow w.heap.size 5 1 (.slice a2 m c2') m (((S.body i).data.take m).map B8)) := Lib.hid ho2; have HB2 : Hid (Below w.heap.size w w2) := Lib.hid ⟨hb2.os, hb2.tape, hb2.output, hb2.size, hb2.block⟩; have hf3 := HFR.out _ HB2.out; have hg3' : g < w2.heap.size := (by have := HB2.out.size; omega); have y3 := HX1.out _ HB2.out; clear ho2 hb2
          refine hK.out _ _ ?_ (fun hHeld => ?_)
          · ((try dsimp only); (first | go_keep | exact HQ.out _ HB2.out | exact HQS.out _ _ HB2.out))
          clear hK K; try simp only [Act.put, List.setIfInBounds_toArray, List.set_cons_zero, List.set_cons_succ]
          refine wpAnyH_take (i := 16) (oi := _) (v := ?_) rfl (by kernel_rfl) (by kernel_rfl) (by kernel_rfl) (fun _ _ _ h => h) (Or.inl ⟨by rfl, ?_⟩) (by assumption) ?_
          rotate_left
          · (intro wS hSw; (try dsimp only at hSw); go_simp; try with_reducible rfl)
          try simp only [Act.put, List.setIfInBounds_toArray]
          refine wpAnyH_take (i := 17) (oi := _) (v := ?_) rfl (by kernel_rfl) (by kernel_rfl) (by kernel_rfl) (fun _ _ _ h => h) (Or.inl ⟨by rfl, ?_⟩) (by assumption) ?_
          rotate_left
          · (intro wS hSw; (try dsimp only at hSw); go_simp; try with_reducible rfl)
          try simp only [Act.put]
          refine wpAnyH_ready (rs := [18]) (by kernel_rfl) (by simp) (AllReadyH.cons (o := _) rfl (fun K hK => ?b1y3x18) AllReadyH.nil)
          go_simp
          refine hK.out _ _ ?_ (fun hHeld => ?_)
          · ((try dsimp only); (first | go_keep | exact HQ.out _ HB2.out | exact HQS.out _ _ HB2.out))
          clear hK K; try simp only [Act.put, List.setIfInBounds_toArray, List.set_cons_zero, List.set_cons_succ]
          refine wpAnyH_done (by kernel_rfl) ?_ _
          all_goals
            refine exit_world fun V hV => ?_
            have HM0 : Hid (MdAt w2 p S L) := Lib.hid (HH.out.keep fun k hk => HB2.out.block k (HH.out.lt hk))
            have HMV : Hid (MdAt V p (S.setBody i ⟨(S.body i).data.take m, (S.body i).safe⟩) { L with dat := L.dat.set i (.slice a2 m c2') }) := Lib.hid (by rw [hV]; exact HM0.out.setDat HV.out (by rw [← HNB.out]; exact hi) HTL.out (ownsRow_base_a HO2.out (Nat.zero_le _)))
            have HTV : Hid (Touch F w V) := Lib.hid (by rw [hV]; exact (Touch.of_below HB2.out).then_ (Touch.setCell _ _ _ HFG.out))
            have HFV : Hid (∀ k, ({ L with dat := L.dat.set i (.slice a2 m c2') } : MLay).foot p k → grow F w V k) := Lib.hid (MLay.foot_dat (fun k hk => .inl (HFF.out k hk)) fun k hk => .inr (by have := HO2.out.lt k hk; rw [hV, size_set']; exact this))
            have z1 : V.cell? ⟨p, 1, none⟩ = some (.slice (some ⟨g, 0, none⟩) nb c) := by rw [hV]; exact HQS.out _ _ HB2.out
            have z2 : V.cell? ⟨g, i * 2 + 1, none⟩ = some (.int .i64 sf) := by rw [hV]; exact (World.cell?_setCell_other _ _ _ _ (by simp)).trans (HX2.out _ HB2.out)
            have z3 : ∀ j, V.frozen? ⟨g, j, none⟩ = false := fun j => by rw [hV, World.frozen?_setCell]; exact hf3 j
            have hgV : g < V.heap.size := by rw [hV, size_set']; exact hg3'
            have hil : i < (S.setBody i ⟨(S.body i).data.take m, (S.body i).safe⟩).bodies.length := by rw [Drv.setBody_length, ← HNB.out]; exact hi
            have HIL := Lib.hid hil
            have HIL2 : Hid (i < S.bodies.length) := Lib.hid (by rw [← HNB.out]; exact hi)
            clear hV hf3 hg3' y3 hil
            by_cases hms : m < sf
            · go_wp2
              go_ret
              have h4 := HMV.out.setSafe (by rw [Drv.setBody_length]; exact HV.out) HIL.out m
              rw [setBody_twice, Drv.setBody_same S HIL2.out] at h4
              refine ⟨rfl, ⟨_, h4.same rfl ?_ rfl rfl rfl, fun k hk => ?_⟩, HTV.out.then_ (Touch.setCell _ _ _ HFG.out)⟩
              · have e : min (S.body i).safe m = m := by rw [← HSF.out]; omega
                unfold Drv.cutTo; rw [e]
              · rcases HFV.out k hk with h5 | h5
                · exact .inl h5
                · exact .inr (by rw [size_set']; exact h5)
            · go_wp2
              go_ret
              refine ⟨rfl, ⟨_, HMV.out.same rfl ?_ rfl rfl rfl, HFV.out⟩, HTV.out⟩
              have e : min (S.body i).safe m = (S.body i).safe := by rw [← HSF.out]; omega
              unfold Drv.cutTo; rw [e]
end Go.Proofs.YtdmcjomcbhdcbaaGreat

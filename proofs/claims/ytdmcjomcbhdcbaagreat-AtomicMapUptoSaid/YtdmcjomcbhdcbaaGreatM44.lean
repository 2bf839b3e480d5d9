/- The book of a drive all of which is safe: settled, walked.; Does the book bear a drive's files: holds, walked.; AtomicMap's state: a world of one drive beside the book; what each kind of step does to it. -/
import Derived.Test.YtdmcjomcbhdcbaaGreatM43
import Derived.Deep.RegionHeld3
import Derived.Deep.DeepCutAuto
import Derived.BigQuiet
import Derived.Test.YtdmcjomcbhdcbaaGreatM42
import Derived.Test.YtdmcjomcbhdcbaaGreatM41
namespace Go.Proofs.YtdmcjomcbhdcbaaGreat
open Go.RowKit Go.Maps

theorem Book.settled_take (fs : List File) {j : Nat} {f : File} (h : fs[j]? = some f) : Book.settled (fs.take (j + 1)) = Book.settled (fs.take j) ++ [⟨f.1, false, [f.2]⟩] := by
  unfold Book.settled
  rw [List.take_add_one, h, List.map_append]
  rfl
theorem BookIn.mono {w : World} {base : Nat} {F G : Nat → Prop} {v : Value} {b : Book} {vals : List Value} (h : BookIn w base F v b vals) (hG : ∀ k, F k → G k) : BookIn w base G v b vals :=
  ⟨h.len, h.row, h.each, h.apart, fun k hk => hG k (h.fv k hk), fun i u k hu hk => hG k (h.fu i u k hu hk)⟩

set_option maxRecDepth 100000 in
set_option maxHeartbeats 4000000 in
theorem settled_any (fs : List File) (base : Nat) (A : Option Addr) (c n : Nat) (hn : n = fs.length) (w : World) (h : FilesAt w base (.slice A n c) fs) (hfs : n ≤ 2147483648) :
    Calls Tryz.prog 17 #[.slice A n c] w fun e w' => ∃ v', e = .returned v' ∧ BookAt w' w.heap.size (fun k => w.heap.size ≤ k ∧ k < w'.heap.size) v' (Book.settled fs) ∧ Below w.heap.size w w' := by
  have H := Lib.hid h
  have HN := Lib.hid hn
  obtain ⟨iM, hiM, hz0, hz1, hz2⟩ := info_parts mayInfo
  clear h hn
  go_enter Tryz.func17, Tryz.ntmps17
  go_wp2
  go_loopw [3, 4] (fun s t wr => ∃ j : Nat, j ≤ n ∧ t = .int .i64 j ∧ Hid (∃ vals, BookIn wr w.heap.size (fun k => w.heap.size ≤ k ∧ k < wr.heap.size) s (Book.settled (fs.take j)) vals) ∧ Below w.heap.size w wr) (fun _ t _ => n - (intOf t).toNat)
  case atStart => exact ⟨0, Nat.zero_le _, rfl, Lib.hid (by obtain ⟨vals, h⟩ := BookAt.nil w w.heap.size (fun k => w.heap.size ≤ k ∧ k < w.heap.size); exact ⟨vals, h⟩), Below.refl _ _⟩
  case round =>
    obtain ⟨j, hj, rfl, HR, hb⟩ := hrel
    have HB := Lib.hid hb
    have hs : w.heap.size ≤ wr.heap.size := hb.size
    clear hb
    obtain ⟨vals, hbk⟩ := HR.out
    have hlen : (Book.settled (fs.take j)).length = j := by
      unfold Book.settled
      rw [List.length_map, List.length_take, ← HN.out]; omega
    have hrow := hbk.row
    rw [hlen] at hrow
    obtain ⟨a3, c3, rfl, hmc⟩ := own_shape hrow
    have HBK := Lib.hid hbk
    have HROW := Lib.hid hrow
    have HLEN := Lib.hid hlen
    clear hbk hrow hlen
    by_cases hlt : j < n
    · obtain ⟨f, hf⟩ : ∃ f, fs[j]? = some f := ⟨_, List.getElem?_eq_getElem (by rw [← HN.out]; exact hlt)⟩
      obtain ⟨g, xa, xd, rfl, y0, y1, hfd, hrow2⟩ := (H.out.below HB.out).at_ HN.out hf
      have hst := Book.settled_take fs hf
      have HST := Lib.hid hst
      have hy0 : ∀ V, Below w.heap.size w V → V.cell? ⟨g, j * 2, none⟩ = some (strV f.1) ∧ V.cell? ⟨g, j * 2 + 1, none⟩ = some (.slice xa f.2.length xd) ∧ (convert 26 9 (.slice xa f.2.length xd)).run Tryz.prog V = .ok (.string ⟨f.2.toArray⟩) V := fun V hV => by
        obtain ⟨g', xa', xd', e1, u0, u1, _, ur⟩ := (H.out.below hV).at_ HN.out hf
        injection e1 with e1
        injection e1 with e1
        subst e1
        obtain ⟨g2, xa2, xd2, e2, v0, v1, _, vr⟩ := H.out.at_ HN.out hf
        injection e2 with e2
        injection e2 with e2
        subst e2
        have q0 := World.block_lt_of_cell? w _ v1
        have c1 := (hV.cell (p := ⟨g, j * 2 + 1, none⟩) q0).trans v1
        have c2 := (HB.out.cell (p := ⟨g, j * 2 + 1, none⟩) q0).trans v1
        rw [y1] at c2
        injection c2 with c2
        injection c2 with c2a _ c2c
        subst c2a c2c
        refine ⟨u0, c1, conv_any _ V.heap.size _ f.2 _ (((Reads.of_own vr).below hV).more hV.size)⟩
      have HY := Lib.hid hy0
      have hcv0 : ∀ V, Below wr.heap.size wr V → (convert 26 9 (.slice xa f.2.length xd)).run Tryz.prog V = .ok (.string ⟨f.2.toArray⟩) V := fun V hV => conv_any _ V.heap.size xa f.2 xd (((Reads.of_own hrow2).below hV).more hV.size)
      have HCV := Lib.hid hcv0
      obtain ⟨f1, f2⟩ := f
      simp only [strV] at y0 y1 hfd HCV HY
      generalize f2.length = lf at y1 hfd HCV HY
      clear hst hf hrow2 hcv0 hy0
      have hj0 : (0 : Int) ≤ (j : Int) := by omega
      have hj1 : (j : Int) < (n : Int) := by omega
      have HM63 : Hid (j + 1 ≤ maxLen) := Lib.hid (by simp only [maxLen]; omega)
      have HB48 : Hid ((j + 1) * 48 ≤ 140737488355328) := Lib.hid (by omega)
      have hb0 : w.heap.size ≤ wr.heap.size := hs
      have HQ0 : Hid (∀ V, Below w.heap.size w V → V.cell? ⟨g, j * 2, none⟩ = some (.string ⟨f1.toArray⟩) ∧ V.cell? ⟨g, j * 2 + 1, none⟩ = some (.slice xa lf xd) ∧ (convert 26 9 (.slice xa lf xd)).run Tryz.prog V = .ok (.string ⟨f2.toArray⟩) V) := Lib.hid fun V hV => HY.out V hV
      have HQ : Hid (∀ V, Below wr.heap.size wr V → V.cell? ⟨g, j * 2, none⟩ = some (.string ⟨f1.toArray⟩) ∧ V.cell? ⟨g, j * 2 + 1, none⟩ = some (.slice xa lf xd) ∧ (convert 26 9 (.slice xa lf xd)).run Tryz.prog V = .ok (.string ⟨f2.toArray⟩) V) := Lib.hid fun V hV => ⟨(hV.cell (p := ⟨g, j * 2, none⟩) (World.block_lt_of_cell? wr _ y0)).trans y0, (hV.cell (p := ⟨g, j * 2 + 1, none⟩) (World.block_lt_of_cell? wr _ y1)).trans y1, HCV.out V hV⟩
      obtain ⟨_, _, hcv⟩ := HQ.out wr (Below.refl _ _)
      have HADD : Hid (∀ (W0 w3 : World) (v3 : Value), w3.ownsRow w.heap.size 113 3 v3 (j + 1) (bookCells (Book.settled (fs.take j)) vals ++ mayCells ⟨f1, false, [f2]⟩ (.slice (some ⟨wr.heap.size, 0, none⟩) 1 1)) → ((wr.drew.alloc (.cells #[.string ⟨f2.toArray⟩] 9)).alloc (.cells #[.string ⟨f1.toArray⟩, .bool false, .slice (some ⟨wr.heap.size, 0, none⟩) 1 1] 113)).grownBy w3 (Value.slice a3 j c3).ownBlock → (v3.ownBlock = (Value.slice a3 j c3).ownBlock ∨ v3.ownBlock = some ((wr.drew.alloc (.cells #[.string ⟨f2.toArray⟩] 9)).alloc (.cells #[.string ⟨f1.toArray⟩, .bool false, .slice (some ⟨wr.heap.size, 0, none⟩) 1 1] 113)).heap.size) → (∃ vals', BookIn w3 w.heap.size (fun k => w.heap.size ≤ k ∧ k < w3.heap.size) v3 (Book.settled (fs.take (j + 1))) vals') ∧ Below w.heap.size w w3) := Lib.hid fun W0 w3 v3 ho hg ha => by
        have hbb : Below wr.heap.size wr ((wr.drew.alloc (.cells #[.string ⟨f2.toArray⟩] 9)).alloc (.cells #[.string ⟨f1.toArray⟩, .bool false, .slice (some ⟨wr.heap.size, 0, none⟩) 1 1] 113)) := ((below_drew1 (Below.refl _ _)).alloc (Nat.le_refl _) _).alloc (by simp) _
        have hsn := HBK.out.snoc ⟨f1, false, [f2]⟩ (.slice (some ⟨wr.heap.size, 0, none⟩) 1 1) hbb hg (by rw [HLEN.out]; exact ho) ha ((own_fresh wr.drew w.heap.size 9 (strV f2) hs).alloc _) (fun k hk => by simp [Value.ownBlock] at hk; omega)
        rw [HST.out]
        have hs3 : wr.heap.size + 2 ≤ w3.heap.size := by have := hg.size; simpa using this
        refine ⟨⟨_, hsn.mono fun k hk => ?_⟩, (HB.out.trans (hbb.mono hs)).grown hg (by simp; omega) (fun q hq => (HROW.out.lt q hq).1)⟩
        rcases hk with hk | hk
        · exact ⟨hk.1, by omega⟩
        · exact ⟨by omega, hk.2⟩
      go_wp2
      go_region_held3 (fun w' => w'.cell? ⟨g, j * 2, none⟩ = some (.string ⟨f1.toArray⟩) ∧ w'.cell? ⟨g, j * 2 + 1, none⟩ = some (.slice xa lf xd) ∧ (convert 26 9 (.slice xa lf xd)).run Tryz.prog w' = .ok (.string ⟨f2.toArray⟩) w') (first | (exact HQ.out _ (below_drew1 (Below.refl _ _))) | (exact HQ.out _ ((below_drew1 (Below.refl _ _)).alloc (Nat.le_refl _) _)) | (exact HQ.out _ (((below_drew1 (Below.refl _ _)).alloc (Nat.le_refl _) _).alloc (by simp) _)) | (exact HQ3.out) | go_keep) ((first
        | (refine step_append_any _ (by rfl) (.tmp 11) (.tmp 25) 55 (by rfl) w.heap.size 113 iM _ 3 48 Tryz.underlying55 hiM hz0 hz1 hz2 rfl (by omega) _ j _ (by rfl) (((ownsRow_below HROW.out (below_drew1 (Below.refl _ _))).alloc _).alloc _) (wr.heap.size + 1 + 1) (some ⟨wr.heap.size + 1, 0, none⟩) 1 1 [.string ⟨f1.toArray⟩, .bool false, .slice (some ⟨wr.heap.size, 0, none⟩) 1 1] (by rfl) (by exact reads_blk (t := 113) (blk_last _ _ _ _ (by simp)) (by omega) rfl) (by intro u hu; simp at hu; rcases hu with rfl | rfl | rfl <;> rfl) HM63.out HB48.out (by simp; omega) ?_; intro v3 w3 hown3 hg3 hat3; obtain ⟨a4, c4, rfl, _⟩ := own_shape hown3; have HSN := Lib.hid (HADD.out w w3 _ hown3 hg3 hat3); have HQ3 := Lib.hid (HQ0.out w3 HSN.out.2); clear hown3 hg3 hat3)
        | fail))
      all_goals (
        go_wp2
        go_roundw
        case rel => exact ⟨j + 1, by omega, by go_num, Lib.hid HSN.out.1, HSN.out.2⟩
        case measure => simp [intOf]; omega)
    · have hjn : j = n := by omega
      subst hjn
      go_wp2
      go_ret
      have hall : fs.take j = fs := List.take_of_length_le (by rw [← HN.out]; exact Nat.le_refl _)
      have hbb := HBK.out
      rw [hall] at hbb
      exact ⟨_, rfl, ⟨_, hbb⟩, HB.out⟩
end Go.Proofs.YtdmcjomcbhdcbaaGreat
namespace Go.Proofs.YtdmcjomcbhdcbaaGreat
open Go.RowKit Go.Maps

set_option maxRecDepth 100000 in
set_option maxHeartbeats 8000000 in
theorem holds_any (b : Book) (fs : List File) (bb bf : Nat) (F : Nat → Prop) (A B : Option Addr) (n m ca cb : Nat) (hn : n = b.length) (hm : m = fs.length) (w : World) (hB : BookAt w bb F (.slice A n ca) b) (hF : FilesAt w bf (.slice B m cb) fs) (ln : n ≤ 4294967296) (lm : m ≤ 1099511627776) (lv : ∀ e ∈ b, e.values.length ≤ 4294967296) (hh : Book.holds b fs) :
    Calls Tryz.prog 24 #[.slice A n ca, .slice B m cb] w fun e w' => e = .returned (.bool true) ∧ ∃ k, w' = w.drewN k := by
  obtain ⟨vals, hBK⟩ := hB
  have HBK := Lib.hid hBK
  have HF := Lib.hid hF
  have HN := Lib.hid hn
  have HM := Lib.hid hm
  have HH := Lib.hid hh
  have HV := Lib.hid lv
  have HBB : Hid (∀ k, BookIn (w.drewN k) bb F (.slice A n ca) b vals) := Lib.hid fun k => HBK.out.keep (G := fun _ => False) (Touch.of_below (below_drewN (Below.refl _ _) k)) (fun _ _ h => h)
  clear hBK hF hn hm hh lv
  go_enter Tryz.func24, Tryz.ntmps24
  go_wp2
  go_loopw [5] (fun s5 wr => ∃ i : Nat, i ≤ m ∧ s5 = .int .i64 i ∧ Hid (∃ k, wr = w.drewN k)) (fun s _ => m - (intOf s).toNat)
  case atStart => exact ⟨0, Nat.zero_le _, rfl, Lib.hid ⟨0, rfl⟩⟩
  case round =>
    obtain ⟨i, hi, rfl, HW⟩ := hrel
    by_cases hlt : i < m
    · obtain ⟨f, hf⟩ : ∃ f, fs[i]? = some f := ⟨_, List.getElem?_eq_getElem (by rw [← HM.out]; exact hlt)⟩
      have HFF := Lib.hid hf
      obtain ⟨k0, hk0⟩ := HW.out
      have hfa : FilesAt wr bf (.slice B m cb) fs := by rw [hk0]; exact HF.out.drewN k0
      have HFA := Lib.hid hfa
      obtain ⟨g, xb, db, rfl, y0, y1, _, hrb⟩ := hfa.at_ HM.out hf
      obtain ⟨f1, fd⟩ := f
      simp only [strV] at y0
      have i0 : (0 : Int) ≤ (i : Int) := by omega
      have i1 : (i : Int) < (m : Int) := by omega
      clear hf hrb y1 hk0 hfa
      obtain ⟨wq, hwq⟩ : ∃ x, x = wr := ⟨_, rfl⟩
      have HWQ := Lib.hid hwq
      rw [← hwq] at HW HFA
      obtain ⟨q0, hq0⟩ : ∃ q, q = (f1 == [116]) := ⟨_, rfl⟩
      have e0 : (f1 == [116]) = q0 := hq0.symm
      have HQ0 : Hid (q0 = true ∨ f1 ≠ [116]) := Lib.hid (by
        cases q0 with
        | true => exact .inl rfl
        | false => exact .inr (by rwa [beq_eq_false_iff_ne] at e0))
      clear hq0
      go_wp2
      go_loopw [6, 7] (fun s6 s7 wr => ∃ (j : Nat) (q : Bool), j ≤ n ∧ s7 = .int .i64 j ∧ s6 = .bool q ∧ Hid ((∃ k, wr = w.drewN k) ∧ (q = true ∨ (f1 ≠ [116] ∧ ∀ (l : Nat) (e : May), l < j → b[l]? = some e → ¬(e.name = f1 ∧ fd ∈ e.values))))) (fun _ s _ => n - (intOf s).toNat)
      case atStart => exact ⟨0, q0, Nat.zero_le _, rfl, rfl, Lib.hid ⟨by rw [← hwq]; exact HW.out, HQ0.out.imp id fun h => ⟨h, fun l e h => absurd h (Nat.not_lt_zero _)⟩⟩⟩
      case round =>
        obtain ⟨j, q, hj, rfl, rfl, HJ⟩ := hrel
        by_cases hlt2 : j < n
        · obtain ⟨e, he⟩ : ∃ e, b[j]? = some e := ⟨_, List.getElem?_eq_getElem (by rw [← HN.out]; exact hlt2)⟩
          have HE := Lib.hid he
          obtain ⟨k1, hk1⟩ := HJ.out.1
          have hbk : BookIn wr bb F (.slice A n ca) b vals := by rw [hk1]; exact HBB.out k1
          have hfa : FilesAt wr bf (.slice (some ⟨g, 0, none⟩) m cb) fs := by rw [hk1]; exact HF.out.drewN k1
          have HWD : Hid (∀ q, ∃ n, wr.drewN q = w.drewN n) := Lib.hid fun q => ⟨k1 + q, by rw [hk1, World.drewN_drewN]⟩
          obtain ⟨g2, x, d, rfl, _, _, _, _, _, z0, z1, z2, hox⟩ := hbk.at_ HN.out he
          obtain ⟨g3, xb', db', e3, u0, u1, _, hrb⟩ := hfa.at_ HM.out HFF.out
          injection e3 with e3
          injection e3 with e3
          subst e3
          have hcv : ∀ m, (convert 26 9 (.slice xb' fd.length db')).run Tryz.prog (wr.drewN m) = .ok (.string ⟨fd.toArray⟩) (wr.drewN m) := fun m => conv_any _ wr.heap.size xb' fd db' ((Reads.of_own hrb).drewN m)
          simp only [strV] at z0 u0
          simp only at u1
          obtain ⟨lf, hlf⟩ : ∃ lf, lf = fd.length := ⟨_, rfl⟩
          rw [← hlf] at u1 hcv
          obtain ⟨vl, hvl⟩ : ∃ vl, vl = e.values.length := ⟨_, rfl⟩
          have HVL := Lib.hid hvl
          rw [← hvl] at z2 hox
          have hvll : vl ≤ 4294967296 := by rw [hvl]; exact HV.out e (List.mem_of_getElem? he)
          obtain ⟨ne, hne⟩ : ∃ x, x = e.name := ⟨_, rfl⟩
          have HNE := Lib.hid hne
          rw [← hne] at z0
          have HOX := Lib.hid hox
          have j0 : (0 : Int) ≤ (j : Int) := by omega
          have j1 : (j : Int) < (n : Int) := by omega
          clear he hk1 hbk hfa hrb hlf hvl hne hox z1
          by_cases hnm : ne = f1
          · have e1 : (ne == f1) = true := by rw [beq_iff_eq]; exact hnm
            obtain ⟨r, hr⟩ : ∃ r, r = e.values.contains fd := ⟨_, rfl⟩
            have HHS : Hid (∀ V, Below wr.heap.size wr V → Calls Tryz.prog 50 #[.slice x vl d, .string ⟨fd.toArray⟩] V fun e w' => e = .returned (.bool r) ∧ w' = V) := Lib.hid fun V hV => by
              rw [hr]
              exact (has_any e.values x vl d HVL.out (by omega) fd V (((Reads.of_own HOX.out).below hV).more hV.size)).mono fun _ _ ⟨a, b⟩ => ⟨a, b.symm⟩
            have HR := Lib.hid hr
            have HNM := Lib.hid hnm
            clear hr hnm
            cases r with
            | true =>
              go_wp2
              go_big_quiet ((go_at_call 50; exact Calls.quiet_of_same (HHS.out _ (below_drewN (Below.refl _ _) _))))
              go_wp2
              exact ⟨⟨j + 1, true, by omega, by go_num, rfl, Lib.hid ⟨HWD.out _, .inl rfl⟩⟩, by simp only [intOf]; omega⟩
            | false =>
              have HST : Hid (q = true ∨ (f1 ≠ [116] ∧ ∀ (l : Nat) (e : May), l < j + 1 → b[l]? = some e → ¬(e.name = f1 ∧ fd ∈ e.values))) := Lib.hid (HJ.out.2.imp id fun h => ⟨h.1, fun l e' hl he' => by
                rcases Nat.lt_or_ge l j with hll | hll
                · exact h.2 l e' hll he'
                · have : l = j := by omega
                  subst this
                  rw [HE.out] at he'; injection he' with he'; subst he'
                  rintro ⟨_, hm⟩
                  have h1 := HR.out
                  have h2 : e.values.contains fd = true := by simpa using hm
                  rw [h2] at h1; cases h1⟩)
              go_wp2
              go_big_quiet ((go_at_call 50; exact Calls.quiet_of_same (HHS.out _ (below_drewN (Below.refl _ _) _))))
              go_wp2
              exact ⟨⟨j + 1, q, by omega, by go_num, rfl, Lib.hid ⟨HWD.out _, HST.out⟩⟩, by simp only [intOf]; omega⟩
          · have e1 : (ne == f1) = false := by rw [beq_eq_false_iff_ne]; exact hnm
            have HST : Hid (q = true ∨ (f1 ≠ [116] ∧ ∀ (l : Nat) (e : May), l < j + 1 → b[l]? = some e → ¬(e.name = f1 ∧ fd ∈ e.values))) := Lib.hid (HJ.out.2.imp id fun h => ⟨h.1, fun l e' hl he' => by
              rcases Nat.lt_or_ge l j with hll | hll
              · exact h.2 l e' hll he'
              · have : l = j := by omega
                subst this
                rw [HE.out] at he'; injection he' with he'; subst he'
                rintro ⟨h3, _⟩
                exact hnm (HNE.out.trans h3)⟩)
            clear hnm
            go_wp2
            go_big_quiet (fail)
            go_wp2
            exact ⟨⟨j + 1, q, by omega, by go_num, rfl, Lib.hid ⟨HWD.out _, HST.out⟩⟩, by simp only [intOf]; omega⟩
        · have hjn : j = n := by omega
          have hq : q = true := by
            rcases HJ.out.2 with h | ⟨h1, h2⟩
            · exact h
            · rcases HH.out.1 (f1, fd) (List.mem_of_getElem? HFF.out) with h3 | ⟨e, h3, h4, h5⟩
              · exact absurd h3 h1
              · obtain ⟨l, hl⟩ := List.getElem?_of_mem h3
                have hll := (List.getElem?_eq_some_iff.1 hl).1
                exact absurd ⟨h4, h5⟩ (h2 l e (by rw [hjn, HN.out]; exact hll) hl)
          subst hq
          have HJ1 := Lib.hid HJ.out.1
          go_wp2
          exact ⟨⟨i + 1, by omega, by go_num, HJ1⟩, by simp only [intOf]; omega⟩
    · have him : i = m := by omega
      subst him
      go_wp2
      go_loopw [8] (fun s8 wr => ∃ j : Nat, j ≤ n ∧ s8 = .int .i64 j ∧ Hid (∃ k, wr = w.drewN k)) (fun s _ => n - (intOf s).toNat)
      case atStart => exact ⟨0, Nat.zero_le _, rfl, HW⟩
      case round =>
        obtain ⟨j, hj, rfl, HJ⟩ := hrel
        by_cases hlt2 : j < n
        · obtain ⟨e, he⟩ : ∃ e, b[j]? = some e := ⟨_, List.getElem?_eq_getElem (by rw [← HN.out]; exact hlt2)⟩
          obtain ⟨k1, hk1⟩ := HJ.out
          have hbk : BookIn wr bb F (.slice A n ca) b vals := by rw [hk1]; exact HBB.out k1
          have hfa : FilesAt wr bf (.slice B i cb) fs := by rw [hk1]; exact HF.out.drewN k1
          have HFA := Lib.hid hfa
          obtain ⟨g2, x, d, rfl, _, _, _, _, _, z0, z1, z2, _⟩ := hbk.at_ HN.out he
          simp only [strV] at z0
          have hc3 := HH.out.2 e (List.mem_of_getElem? he)
          obtain ⟨ne, hne⟩ : ∃ x, x = e.name := ⟨_, rfl⟩
          obtain ⟨ab, hab⟩ : ∃ x, x = e.absent := ⟨_, rfl⟩
          rw [← hne] at z0 hc3
          rw [← hab] at z1 hc3
          have j0 : (0 : Int) ≤ (j : Int) := by omega
          have j1 : (j : Int) < (n : Int) := by omega
          have HAT : Hid (∀ W, W = wr → Calls Tryz.prog 27 #[.slice B i cb, .string ⟨ne.toArray⟩] W fun e w' => e = .returned (.int .i64 (atI fs ne)) ∧ W = w') := Lib.hid fun W hW => by subst hW; exact at_at fs bf B cb i HM.out ne W HFA.out lm
          obtain ⟨ia, hia⟩ : ∃ x, x = atI fs ne := ⟨_, rfl⟩
          rw [← hia] at HAT
          clear he hk1 hbk hfa hne hab z2
          by_cases ht : ne = [116]
          · have e1 : (ne == [116]) = true := by rw [beq_iff_eq]; exact ht
            have e2 : (ne != [116]) = false := by rw [ht]; rfl
            clear hc3 hia ht
            go_wp2
            exact ⟨⟨j + 1, by omega, by go_num, HJ⟩, by simp only [intOf]; omega⟩
          · have e1 : (ne == [116]) = false := by rw [beq_eq_false_iff_ne]; exact ht
            have e2 : (ne != [116]) = true := by rw [bne_iff_ne]; exact ht
            cases ab with
            | true =>
              clear hc3 hia ht
              go_wp2
              exact ⟨⟨j + 1, by omega, by go_num, HJ⟩, by simp only [intOf]; omega⟩
            | false =>
              have hi3 : ¬ ia < 0 := by
                rcases hc3 with h | h | h
                · exact absurd h ht
                · cases h
                · rcases atI_cases fs ne with ⟨h1, h2⟩ | ⟨k, f, h1, _⟩
                  · exact absurd h2 h
                  · rw [hia, h1]; omega
              have e3 : decide (ia < 0) = false := by rw [decide_eq_false_iff_not]; exact hi3
              clear hc3 hia ht
              go_wp2_with (go_at_call 27; refine (HAT.out _ rfl).mono ?_; rintro e w' ⟨rfl, rfl⟩)
              exact ⟨⟨j + 1, by omega, by go_num, HJ⟩, by simp only [intOf]; omega⟩
        · go_wp2
          go_ret
          exact ⟨rfl, HJ.out⟩
end Go.Proofs.YtdmcjomcbhdcbaaGreat
namespace Go.Proofs.YtdmcjomcbhdcbaaGreat
open Go.RowKit Go.Maps

theorem ActIn.placed {w : World} {h : Nat} {Av : Nat → Prop} {x : PAct} {L : ALay} (hi : ActIn w h Av { x with place := 0 } L) : ActIn w h Av x L := ⟨hi.pr, hi.pa, hi.pn, hi.dr, hi.da, hi.dn, hi.dc, hi.rr, hi.ft⟩
theorem struck_ne91 (X : Wnd) (may : Bool) : (X.struck may).2.1 ≠ 91 := by
  have hs : ∀ (k : Int) l, Wnd.scan may k l ≠ 91 := fun k l => by
    induction l with
    | nil => unfold Wnd.scan; decide
    | cons f r ih =>
      unfold Wnd.scan
      split
      · split
        · decide
        · split
          · decide
          · decide
      · exact ih
  unfold Wnd.struck
  split
  · exact fun h => by cases h
  · split
    · exact fun h => by cases h
    · split
      · exact fun h => by cases h
      · exact hs _ _
theorem wcall_ne91 (X : Wnd) (S : Drv) (may : Bool) (f : Drv × Int) (hf : f.2 ≠ 91) : (wcall X S may f).2.2 ≠ 91 := by
  unfold wcall
  split
  · exact hf
  · exact struck_ne91 X may
theorem wcall_ne110 (X : Wnd) (S : Drv) (may : Bool) (f : Drv × Int) (hf : f.2 ≠ 110) : (wcall X S may f).2.2 ≠ 110 := by
  unfold wcall
  split
  · exact hf
  · exact struck_ne X may
theorem find_ne91 {S : Drv} {s : Nm} (hn : named s = true) : (S.find s).2 ≠ 91 := by
  unfold Drv.find
  rw [if_neg (by rw [hn]; decide)]
  split
  · exact fun h => by cases h
  · exact fun h => by cases h
theorem append_ne91 (S : Drv) (bs : List UInt8) : (S.append [116] bs).2 ≠ 91 := by
  have h := find_ne91 (S := S) (s := [116]) (by decide)
  unfold Drv.append
  split
  · rename_i e he; rw [he] at h; exact h
  · split
    · exact fun h => by cases h
    · split
      · exact fun h => by cases h
      · exact fun h => by cases h
theorem awStep_ne91 (X : Wnd) (S : Drv) (nm : Nm) (hn : named nm = true) (bs : List UInt8) (i : Nat) : (awStep nm bs (X, S) i).2.2 ≠ 91 := by
  have hf := find_ne91 (S := S) (s := [116]) (by decide)
  unfold awStep
  split
  · refine wcall_ne91 _ _ _ _ ?_
    show (S.create [116]).2 ≠ 91
    unfold Drv.create
    rw [if_neg (by decide)]
    split
    · exact fun h => by cases h
    · exact fun h => by cases h
  · show (wappend X S [116] bs).2.2 ≠ 91
    unfold wappend
    split
    · exact append_ne91 S bs
    · split
      · exact struck_ne91 X true
      · exact struck_ne91 X true
  · refine wcall_ne91 _ _ _ _ ?_
    show (S.sync [116]).2 ≠ 91
    unfold Drv.sync
    split
    · rename_i e he; rw [he] at hf; exact hf
    · exact fun h => by cases h
  · refine wcall_ne91 _ _ _ _ ?_
    show (S.rename [116] nm).2 ≠ 91
    unfold Drv.rename
    rw [if_neg (by rw [hn]; rintro ⟨_, h⟩; cases h)]
    split
    · rename_i e he; rw [he] at hf; exact hf
    · split
      · exact fun h => by cases h
      · exact fun h => by cases h
  · exact wcall_ne91 _ _ _ _ (show (0 : Int) ≠ 91 by decide)
theorem awFrom_ne91 (nm : Nm) (hn : named nm = true) (bs : List UInt8) : ∀ (n k : Nat) (X : Wnd) (S : Drv), (awFrom nm bs n k (X, S)).2.2 ≠ 91
  | 0, _, _, _ => show (0 : Int) ≠ 91 by decide
  | n + 1, k, X, S => by
    unfold awFrom
    split
    · exact awFrom_ne91 nm hn bs n (k + 1) _ _
    · exact awStep_ne91 X S nm hn bs k
theorem turnW_code (X : Wnd) (S : Drv) (nm : Nm) (bs : List UInt8) : ((turnW X S nm bs).2.2 = 91) ↔ lookE nm ≠ 0 := by
  unfold turnW
  by_cases h : lookE nm = 0
  · rw [if_pos h]
    have hn : named nm = true := by
      unfold lookE at h
      split at h
      · rename_i h1; exact h1.1
      · cases h
    exact ⟨fun e => absurd e (awFrom_ne91 nm hn bs 5 0 X S), fun e => absurd h e⟩
  · rw [if_neg h]
    exact ⟨fun _ => h, fun _ => rfl⟩
theorem aremove_code (X : Wnd) (S : Drv) (nm : Nm) (hn : named nm = true) : (aremove X S nm).2.2 ≠ 91 ∧ (aremove X S nm).2.2 ≠ 110 := by
  have h1 : (S.remove nm).2 ≠ 91 := by
    have hf := find_ne91 (S := S) hn
    unfold Drv.remove
    split
    · rename_i e he; rw [he] at hf; exact hf
    · exact fun h => by cases h
  have h2 := wcall_ne91 X S false _ h1
  unfold aremove
  split
  · rename_i h; exact ⟨h2, h.2⟩
  · exact ⟨wcall_ne91 _ _ _ _ (show (0 : Int) ≠ 91 by decide), wcall_ne110 _ _ _ _ (show (0 : Int) ≠ 110 by decide)⟩
theorem removeW_code (X : Wnd) (S : Drv) (nm : Nm) : (((removeW X S nm).2.2 = 91) ↔ lookE nm ≠ 0) ∧ (removeW X S nm).2.2 ≠ 110 := by
  unfold removeW
  by_cases h : lookE nm = 0
  · rw [if_pos h]
    have hn : named nm = true := by
      unfold lookE at h
      split at h
      · rename_i h1; exact h1.1
      · cases h
    obtain ⟨a, b⟩ := aremove_code X S nm hn
    exact ⟨⟨fun e => absurd e a, fun e => absurd h e⟩, b⟩
  · rw [if_neg h]
    exact ⟨⟨fun _ => h, fun _ => rfl⟩, fun h => by cases h⟩

theorem BookAt.base {w : World} {base base' : Nat} {F : Nat → Prop} {v : Value} {b : Book} (h : BookAt w base F v b) (hb : base' ≤ base) : BookAt w base' F v b := by
  obtain ⟨vals, h⟩ := h
  exact ⟨vals, h.len, ownsRow_base_a h.row hb, fun k m u hm hu => ownsRow_base_a (h.each k m u hm hu) hb, h.apart, h.fv, h.fu⟩
theorem World1.kept {w w' : World} {h dg wg mg q p mq mp : Nat} {Av F : Nat → Prop} {X Y : Wnd} {S T : Drv} (hT : World1 w h Av dg wg mg q p mq mp X S Y T) (ht : Touch F w w') (hF : ∀ k, F k → Av k ∧ k ≠ dg ∧ k ≠ wg ∧ k ≠ mg) : World1 w' h (fun k => Av k ∨ (w.heap.size ≤ k ∧ k < w'.heap.size)) dg wg mg q p mq mp X S Y T := by
  obtain ⟨F1, F2, a, b, r, h1, h2, hno, hr, hd, hl⟩ := hT
  have hs := ht.size
  refine ⟨F1, F2, a.keep ht fun k hk hf => (hr k (hF k hf).1).1 hk, b.keep ht fun k hk hf => (hr k (hF k hf).1).2 hk, r.keep ht fun k hk hf => ?_, fun k hk => by have := h1 k hk; omega, fun k hk => by have := h2 k hk; omega, hno, fun k hk => ?_, fun k hk => .inl (hd k hk), fun k hk => ?_⟩
  · obtain ⟨_, a1, a2, a3⟩ := hF k hf
    rcases hk with e | e | e
    · exact a1 e
    · exact a2 e
    · exact a3 e
  · rcases hk with hk | hk
    · exact hr k hk
    · exact ⟨fun hf => by have := h1 k hf; omega, fun hf => by have := h2 k hf; omega⟩
  · rcases hk with hk | hk
    · have := hl k hk; omega
    · exact hk.2
/-- The state behind j steps. -/
structure MapSt (w : World) (h hb : Nat) (Av0 Av : Nat → Prop) (dg wg mg q p mq mp : Nat) (X Y : Wnd) (S T : Drv) (F : Nat → Prop) (v : Value) (b : Book) (k j N r : Nat) : Prop where
  kx : KeptM X S k (N + k) r
  ky : KeptM Y T 0 N r
  av : ∀ i, Av0 i → Av i
  wd : World1 w h Av dg wg mg q p mq mp X S Y T
  bk : BookAt w hb F v b
  fav : ∀ i, F i → Av i ∧ hb ≤ i
  ok : Book.Ok b
  len : b.length ≤ 1073741824 + j
  vals : ∀ e ∈ b, e.values.length ≤ 1 + j
  holds : Holds S (fun s y => Book.allows b s y)
section
variable {w w' : World} {h hb dg wg mg q p mq mp : Nat} {Av0 Av : Nat → Prop} {X Y : Wnd} {S T : Drv} {F : Nat → Prop} {v : Value} {b : Book} {k j N r : Nat}
theorem MapSt.boxed (hM : MapSt w h hb Av0 Av dg wg mg q p mq mp X Y S T F v b k j N r) (hbw : Below w.heap.size w w') : MapSt w' h hb Av0 (fun i => Av i ∨ (w.heap.size ≤ i ∧ i < w'.heap.size)) dg wg mg q p mq mp X Y S T F v b k j N r :=
  ⟨hM.kx, hM.ky, fun i hi => .inl (hM.av i hi), hM.wd.boxed hbw, hM.bk.below hbw, fun i hi => ⟨.inl (hM.fav i hi).1, (hM.fav i hi).2⟩, hM.ok, hM.len, hM.vals, hM.holds⟩
theorem MapSt.below (hM : MapSt w h hb Av0 Av dg wg mg q p mq mp X Y S T F v b k j N r) (hbw : Below w.heap.size w w') : MapSt w' h hb Av0 Av dg wg mg q p mq mp X Y S T F v b k j N r :=
  ⟨hM.kx, hM.ky, hM.av, hM.wd.below hbw, hM.bk.below hbw, hM.fav, hM.ok, hM.len, hM.vals, hM.holds⟩
/-- A step of the world alone. -/
theorem MapSt.step (hM : MapSt w h hb Av0 Av dg wg mg q p mq mp X Y S T F v b k j N r) {X' Y' : Wnd} {S' T' : Drv} {k' : Nat} (hT : World1 w' h Av dg wg mg q p mq mp X' S' Y' T') (ht : Touch (fr h Av) w w') (hK : KeptM X' S' k' (N + k') r) (hK2 : KeptM Y' T' 0 N r) (hH : Holds S' (fun s y => Book.allows b s y)) :
    MapSt w' h hb Av0 Av dg wg mg q p mq mp X' Y' S' T' F v b k' j N r :=
  ⟨hK, hK2, hM.av, hT, hM.bk.keep ht fun i hi hf => hf.2 (hM.fav i hi).1, hM.fav, hM.ok, hM.len, hM.vals, hH⟩
theorem MapSt.next (hM : MapSt w h hb Av0 Av dg wg mg q p mq mp X Y S T F v b k j N r) : MapSt w h hb Av0 Av dg wg mg q p mq mp X Y S T F v b k (j + 1) N r :=
  ⟨hM.kx, hM.ky, hM.av, hM.wd, hM.bk, hM.fav, hM.ok, by have := hM.len; omega, fun e he => by have := hM.vals e he; omega, hM.holds⟩
theorem MapSt.stay (hM : MapSt w h hb Av0 Av dg wg mg q p mq mp X Y S T F v b k j N r) {k' : Nat} (hk : k ≤ k') (hN : N + k' ≤ 1073741824) : MapSt w h hb Av0 Av dg wg mg q p mq mp X Y S T F v b k' (j + 1) N r :=
  ⟨hM.kx.mono hk (by omega) hN, hM.ky, hM.av, hM.wd, hM.bk, hM.fav, hM.ok, by have := hM.len; omega, fun e he => by have := hM.vals e he; omega, hM.holds⟩
theorem touch_high {w0 w w' : World} {G F : Nat → Prop} (ht : Touch G w0 w) (ht2 : Touch F w w') (hF : ∀ i, F i → w0.heap.size ≤ i) : Touch G w0 w' :=
  ⟨ht2.os.trans ht.os, ht2.tape.trans ht.tape, ht2.output.trans ht.output, Nat.le_trans ht.size ht2.size, fun i hi hn => (ht2.block i (Nat.lt_of_lt_of_le hi ht.size) fun hf => by have := hF i hf; omega).trans (ht.block i hi hn)⟩
/-- The book turned, of a world whose drive has turned already. -/
theorem MapSt.turn {b' : Book} {v' : Value} (hd : dg < hb ∧ wg < hb ∧ mg < hb) (hk : KeptM X S k (N + k) r) (hk2 : KeptM Y T 0 N r) (hav : ∀ i, Av0 i → Av i) (hT : World1 w h Av dg wg mg q p mq mp X S Y T) (hfav : ∀ i, F i → Av i ∧ hb ≤ i) (hbw : hb ≤ w.heap.size)
    (hB : BookAt w' hb (grow F w w') v' b') (ht : Touch F w w') (hok : Book.Ok b') (hlen : b'.length ≤ 1073741824 + j) (hvals : ∀ e ∈ b', e.values.length ≤ 1 + j) (hH : Holds S (fun s y => Book.allows b' s y)) :
    MapSt w' h hb Av0 (fun i => Av i ∨ (w.heap.size ≤ i ∧ i < w'.heap.size)) dg wg mg q p mq mp X Y S T (grow F w w') v' b' k j N r :=
  ⟨hk, hk2, fun i hi => .inl (hav i hi), hT.kept ht fun i hi => ⟨(hfav i hi).1, by have := (hfav i hi).2; omega, by have := (hfav i hi).2; omega, by have := (hfav i hi).2; omega⟩, hB, fun i hi => by
    rcases hi with hi | hi
    · exact ⟨.inl (hfav i hi).1, (hfav i hi).2⟩
    · exact ⟨.inr hi, by omega⟩, hok, hlen, hvals, hH⟩
end
theorem wrote_len (b : Book) (s : Nm) (d : List UInt8) (done : Bool) {L V : Nat} (hl : b.length ≤ L) (hv : ∀ e ∈ b, e.values.length ≤ V) : (Book.wrote b s d done).length ≤ L + 1 ∧ ∀ e ∈ Book.wrote b s d done, e.values.length ≤ V + 1 := by
  obtain ⟨h1, _⟩ := Book.ent_at b s
  have hp : (Book.place b s).length ≤ L + 1 ∧ ∀ e ∈ Book.place b s, e.values.length ≤ V := by
    unfold Book.place
    split
    · exact ⟨by omega, hv⟩
    · refine ⟨by simp; omega, fun e he => ?_⟩
      rcases List.mem_append.1 he with he | he
      · exact hv e he
      · simp at he; subst he; exact Nat.zero_le _
  have hen := hp.2 _ (List.mem_of_getElem? h1)
  have hs : ∀ m' : May, m'.values.length ≤ V + 1 → ((Book.place b s).set (Book.idx b s) m').length ≤ L + 1 ∧ ∀ e ∈ (Book.place b s).set (Book.idx b s) m', e.values.length ≤ V + 1 := fun m' hm => by
    refine ⟨by rw [List.length_set]; exact hp.1, fun e he => ?_⟩
    rcases List.mem_or_eq_of_mem_set he with he | he
    · have := hp.2 e he; omega
    · subst he; exact hm
  unfold Book.wrote
  split
  · exact hs _ (by simp)
  · split
    · exact ⟨hp.1, fun e he => by have := hp.2 e he; omega⟩
    · exact hs _ (by simp; omega)
theorem took_len (b : Book) (s : Nm) (done : Bool) {L V : Nat} (hl : b.length ≤ L) (hv : ∀ e ∈ b, e.values.length ≤ V) : (Book.took b s done).length ≤ L + 1 ∧ ∀ e ∈ Book.took b s done, e.values.length ≤ V + 1 := by
  obtain ⟨h1, _⟩ := Book.ent_at b s
  have hp : (Book.place b s).length ≤ L + 1 ∧ ∀ e ∈ Book.place b s, e.values.length ≤ V := by
    unfold Book.place
    split
    · exact ⟨by omega, hv⟩
    · refine ⟨by simp; omega, fun e he => ?_⟩
      rcases List.mem_append.1 he with he | he
      · exact hv e he
      · simp at he; subst he; exact Nat.zero_le _
  have hen := hp.2 _ (List.mem_of_getElem? h1)
  have hs : ∀ m' : May, m'.values.length ≤ V + 1 → ((Book.place b s).set (Book.idx b s) m').length ≤ L + 1 ∧ ∀ e ∈ (Book.place b s).set (Book.idx b s) m', e.values.length ≤ V + 1 := fun m' hm => by
    refine ⟨by rw [List.length_set]; exact hp.1, fun e he => ?_⟩
    rcases List.mem_or_eq_of_mem_set he with he | he
    · have := hp.2 e he; omega
    · subst he; exact hm
  unfold Book.took
  split
  · exact hs _ (by simp)
  · exact hs _ (by simp; omega)
/-- What the names may show behind a writing. -/
theorem wrote_holds {X Y : Wnd} {S T : Drv} {b : Book} {nm : Nm} {bs : List UInt8} {x : Int} {c N r : Nat} (hl : lookE nm = 0) (hK : Kept X S c N r) (hN : N + 5 ≤ 1073741824) (hok : Book.Ok b) (hH : Holds S (fun s y => Book.allows b s y)) (hy : turnW X S nm bs = (Y, T, x)) :
    Holds T (fun s y => Book.allows (Book.wrote b nm bs (x == 0)) s y) := by
  have hn : named nm = true ∧ nm ≠ [116] := by
    unfold lookE at hl
    split at hl
    · assumption
    · cases hl
  unfold turnW at hy
  rw [if_pos hl] at hy
  have hE := awrite_law hn.1 hn.2 hK hN hH hy
  by_cases hx : x = 0
  · subst hx
    obtain ⟨h1, h2⟩ := hE.ok rfl
    refine h1.mono fun s y hs hy => ?_
    subst hy
    refine Book.wrote_true hok (fun hne => ?_) fun e => by subst e; exact h2
    rw [hE.others s hs hne]
    exact hH.now s hs
  · have e : (x == 0) = false := by rw [beq_eq_false_iff_ne]; exact hx
    rw [e]
    exact hE.holds.mono fun s y _ hy => Book.wrote_false hok hy
theorem took_holds {X Y : Wnd} {S T : Drv} {b : Book} {nm : Nm} {x : Int} {c N r : Nat} (hl : lookE nm = 0) (hK : Kept X S c N r) (hok : Book.Ok b) (hH : Holds S (fun s y => Book.allows b s y)) (hy : removeW X S nm = (Y, T, x)) :
    Holds T (fun s y => Book.allows (Book.took b nm (x == 0)) s y) := by
  unfold removeW at hy
  rw [if_pos hl] at hy
  obtain ⟨h1, h2⟩ := aremove_holds hK hH hy
  obtain ⟨g1, g2, g3⟩ := aremove_shows hK hy
  by_cases hx : x = 0
  · subst hx
    refine (h2 rfl).mono fun s y hs hy => ?_
    subst hy
    refine Book.took_true hok (fun hne => ?_) fun e => by subst e; exact g3 rfl
    rw [g1 s hne]
    exact hH.now s hs
  · have e : (x == 0) = false := by rw [beq_eq_false_iff_ne]; exact hx
    rw [e]
    exact h1.mono fun s y _ hy => Book.took_false hok hy
/-- What stands is what the book bears. -/
theorem holds_image {S : Drv} {N : Nat} {b : Book} (hI : S.Inv N) (hH : Holds S (fun s y => Book.allows b s y)) : Book.holds b S.image :=
  Book.holds_of (fun s hs => by rw [image_shows hI]; exact hH.now s hs) fun k f hk => image_own k f hk
end Go.Proofs.YtdmcjomcbhdcbaaGreat

/- The law's helper: files. -/
import Derived.Test.YtdmcjomcbhdcbaaLa
namespace Go.Proofs.Ytdmcjomcbhdcbaa
open Go.RowKit Go.Maps

theorem file_get : ∀ (fs : List File) (vals : List Value) (k : Nat) (f : File) (u : Value), fs[k]? = some f → vals[k]? = some u → (fileCells fs vals)[k * 2]? = some (strV f.1) ∧ (fileCells fs vals)[k * 2 + 1]? = some u
  | [], vals, k, f, u, h, _ => by simp at h
  | x :: fs, [], k, f, u, _, h => by simp at h
  | x :: fs, y :: vals, 0, f, u, h, h' => by simp at h h'; subst h; subst h'; simp [fileCells]
  | x :: fs, y :: vals, k + 1, f, u, h, h' => by
    have := file_get fs vals k f u (by simpa using h) (by simpa using h')
    rw [show (k + 1) * 2 = k * 2 + 2 by omega]
    simpa [fileCells] using this

/-- A place of a list of files: its name's cell, its bytes' cell, its bytes. -/
theorem FilesAt.at_ {w : World} {base : Nat} {a : Option Addr} {n c : Nat} {fs : List File} (h : FilesAt w base (.slice a n c) fs) (hn : n = fs.length) {k : Nat} {f : File} (hf : fs[k]? = some f) :
    ∃ g b d, a = some ⟨g, 0, none⟩ ∧ w.cell? ⟨g, k * 2, none⟩ = some (strV f.1) ∧ w.cell? ⟨g, k * 2 + 1, none⟩ = some (.slice b f.2.length d) ∧ f.2.length ≤ d ∧ w.ownsRow base 5 1 (.slice b f.2.length d) f.2.length (f.2.map B8) := by
  obtain ⟨vals, hl, ho, hd⟩ := h
  have hk : k < fs.length := by
    rcases Nat.lt_or_ge k fs.length with h | h
    · exact h
    · rw [List.getElem?_eq_none h] at hf; cases hf
  obtain ⟨u, hu⟩ : ∃ u, vals[k]? = some u := ⟨_, List.getElem?_eq_getElem (by omega)⟩
  obtain ⟨c1, c2⟩ := file_get fs vals k f u hf hu
  have hrow := hd k f u hf hu
  obtain ⟨b, d, rfl, hbd⟩ := own_shape hrow
  subst hn
  obtain ⟨g, cap, hv, _, _⟩ := ho.form (by omega)
  have ha : a = some ⟨g, 0, none⟩ := by injection hv
  subst ha
  refine ⟨g, b, d, rfl, ?_, ?_, hbd, hrow⟩
  · have := ho.cells (g := g) rfl (k * 2) _ c1; simpa [add_plain] using this
  · have := ho.cells (g := g) rfl (k * 2 + 1) _ c2; simpa [add_plain] using this
theorem FilesAt.shape {w : World} {base : Nat} {v : Value} {fs : List File} (h : FilesAt w base v fs) : ∃ a c, v = .slice a fs.length c ∧ fs.length ≤ c := by
  obtain ⟨vals, hl, ho, hd⟩ := h
  exact own_shape ho

theorem conv_any (w : World) (B : Nat) (a : Option Addr) (bs : List UInt8) (c : Nat) (h : Reads w B 1 a bs.length (bs.map B8)) :
    (convert 22 9 (.slice a bs.length c)).run Try.prog w = .ok (.string ⟨bs.toArray⟩) w := by
  cases a with
  | none =>
    have : bs = [] := by
      rcases Nat.eq_zero_or_pos bs.length with h0 | h0
      · exact List.eq_nil_of_length_eq_zero h0
      · obtain ⟨ad, e, _⟩ := h.2 h0; cases e
    subst this
    exact run_convert_bytes_nil w 22 5 Try.underlying22 Try.underlying5 0 c 9 Try.underlying9
  | some ad =>
    refine run_convert_bytes_back w 22 9 5 ad c bs Try.underlying22 Try.underlying5 Try.underlying9 fun j hj => ?_
    obtain ⟨ad', e, _, hc⟩ := h.2 (by omega)
    injection e with e; subst e
    exact hc j (B8 bs[j]) (by simp [hj])

set_option maxHeartbeats 1000000 in
theorem files_any (va vb : Value) (fs gs : List File) (ba bb : Nat) (w : World) (ha : FilesAt w ba va fs) (hb : FilesAt w bb vb gs) (hl : fs.length ≤ 2199023254000) :
    Calls Try.prog 49 #[va, vb] w fun e w' => e = .returned (.bool (decide (fs = gs))) ∧ ∃ n, w' = w.drewN n := by
  obtain ⟨a, ca, rfl, hca⟩ := ha.shape
  obtain ⟨b, cb, rfl, hcb⟩ := hb.shape
  have HA := Lib.hid ha
  have HB := Lib.hid hb
  clear ha hb
  obtain ⟨len, hlen⟩ : ∃ n, n = fs.length := ⟨_, rfl⟩
  have HL := Lib.hid hlen
  rw [← hlen] at hl hca ⊢
  by_cases hne : gs.length = len
  · rw [hne] at hcb ⊢
    have HNE := Lib.hid hne
    clear hne hlen
    obtain ⟨res, hres⟩ : ∃ r, r = decide (fs = gs) := ⟨_, rfl⟩
    rw [← hres]
    have HRES := Lib.hid hres
    clear hres
    go_enter Try.func49, Try.ntmps49
    go_wp2
    go_loopw [5] (fun s wr => ∃ k : Nat, k ≤ len ∧ s = .int .i64 k ∧ fs.take k = gs.take k ∧ ∃ n, wr = w.drewN n) (fun s _ => len - (intOf s).toNat)
    case atStart => exact ⟨0, Nat.zero_le _, rfl, rfl, 0, rfl⟩
    case round =>
      obtain ⟨k, hk, rfl, htk, n, hn⟩ := hrel
      have HTK := Lib.hid htk
      have HN := Lib.hid hn
      clear htk
      by_cases hlt : k < len
      · obtain ⟨f, hf⟩ : ∃ f, fs[k]? = some f := ⟨_, List.getElem?_eq_getElem (by rw [← HL.out]; exact hlt)⟩
        obtain ⟨g, hg⟩ : ∃ g, gs[k]? = some g := ⟨_, List.getElem?_eq_getElem (by rw [HNE.out]; exact hlt)⟩
        have hA : FilesAt wr ba (.slice a len ca) fs := by rw [hn, HL.out]; exact HA.out.below (below_drewN (Below.refl _ _) n)
        have hB : FilesAt wr bb (.slice b len cb) gs := by rw [hn, ← HNE.out]; exact HB.out.below (below_drewN (Below.refl _ _) n)
        obtain ⟨ga, xa, da, rfl, x0, x1, _, hra⟩ := hA.at_ HL.out hf
        obtain ⟨gb, xb, db, rfl, y0, y1, _, hrb⟩ := hB.at_ HNE.out.symm hg
        have hva : ∀ m, (convert 22 9 (.slice xa f.2.length da)).run Try.prog (wr.drewN m) = .ok (.string ⟨f.2.toArray⟩) (wr.drewN m) := fun m => conv_any _ wr.heap.size xa f.2 da ((Reads.of_own hra).drewN m)
        have hvb : ∀ m, (convert 22 9 (.slice xb g.2.length db)).run Try.prog (wr.drewN m) = .ok (.string ⟨g.2.toArray⟩) (wr.drewN m) := fun m => conv_any _ wr.heap.size xb g.2 db ((Reads.of_own hrb).drewN m)
        have HF := Lib.hid hf
        have HG := Lib.hid hg
        obtain ⟨f1, f2⟩ := f
        obtain ⟨g1, g2⟩ := g
        simp only [strV] at x0 x1 y0 y1 hva hvb
        generalize f2.length = lf at x1 hva
        generalize g2.length = lg at y1 hvb
        clear hA hB hra hrb hf hg hn
        have htk2 : ∀ x y : File, fs[k]? = some x → gs[k]? = some y → x = y → fs.take (k + 1) = gs.take (k + 1) := fun x y hx hy e => by
          rw [List.take_add_one, List.take_add_one, HTK.out, hx, hy, e]
        have HT2 := Lib.hid htk2
        have hno : ∀ x y : File, fs[k]? = some x → gs[k]? = some y → x ≠ y → res = false := fun x y hx hy e => by
          rw [HRES.out]; refine decide_eq_false fun h => e ?_
          rw [h, hy] at hx; injection hx with hx; exact hx.symm
        have HNO := Lib.hid hno
        clear htk2 hno
        obtain ⟨s1, hs1⟩ : ∃ x : ByteArray, x = ⟨f1.toArray⟩ := ⟨_, rfl⟩
        obtain ⟨s2, hs2⟩ : ∃ x : ByteArray, x = ⟨f2.toArray⟩ := ⟨_, rfl⟩
        obtain ⟨t1, ht1⟩ : ∃ x : ByteArray, x = ⟨g1.toArray⟩ := ⟨_, rfl⟩
        obtain ⟨t2, ht2⟩ : ∃ x : ByteArray, x = ⟨g2.toArray⟩ := ⟨_, rfl⟩
        rw [← hs1] at x0
        rw [← hs2] at hva
        rw [← ht1] at y0
        rw [← ht2] at hvb
        have l1 : s1.toList = f1 := by rw [hs1, ByteArray.toList_eq]
        have l2 : s2.toList = f2 := by rw [hs2, ByteArray.toList_eq]
        have l3 : t1.toList = g1 := by rw [ht1, ByteArray.toList_eq]
        have l4 : t2.toList = g2 := by rw [ht2, ByteArray.toList_eq]
        clear hs1 hs2 ht1 ht2
        by_cases e1 : f1 = g1
        · have b1 : (s1.toList != t1.toList) = false := by rw [l1, l3, e1]; simp
          have c1 : (s1.toList == t1.toList) = true := by rw [l1, l3, e1]; simp
          by_cases e2 : f2 = g2
          · have b2 : (s2.toList != t2.toList) = false := by rw [l2, l4, e2]; simp
            have c2 : (s2.toList == t2.toList) = true := by rw [l2, l4, e2]; simp
            have HT3 := Lib.hid (HT2.out _ _ HF.out HG.out (by rw [e1, e2]))
            clear e1 e2 l1 l2 l3 l4
            go_wp2
            go_quiet (fail)
            go_wp2
            go_roundw
            case rel => exact ⟨k + 1, by omega, by go_num, HT3.out, n + nq, by rw [HN.out, World.drewN_drewN]⟩
            case measure => simp [intOf]; omega
          · have b2 : (s2.toList != t2.toList) = true := by rw [l2, l4]; simpa using e2
            have c2 : (s2.toList == t2.toList) = false := by rw [l2, l4]; simpa using e2
            have HE := Lib.hid (HNO.out _ _ HF.out HG.out (fun e => e2 (by injection e)))
            clear e1 e2 l1 l2 l3 l4
            go_wp2
            go_quiet (fail)
            go_wp2
            go_ret
            exact ⟨by rw [HE.out]; exact rfl, n + nq, by rw [HN.out, World.drewN_drewN]⟩
        · have b1 : (s1.toList != t1.toList) = true := by rw [l1, l3]; simpa using e1
          have c1 : (s1.toList == t1.toList) = false := by rw [l1, l3]; simpa using e1
          have HE := Lib.hid (HNO.out _ _ HF.out HG.out (fun e => e1 (by injection e)))
          clear e1 l1 l2 l3 l4
          go_wp2
          go_quiet (fail)
          go_wp2
          go_ret
          exact ⟨by rw [HE.out]; exact rfl, n + nq, by rw [HN.out, World.drewN_drewN]⟩
      · have hkl : k = len := by omega
        have htt : res = true := by
          rw [HRES.out]; refine decide_eq_true ?_
          have := HTK.out
          rwa [hkl, HL.out, List.take_length, ← HL.out, ← HNE.out, List.take_length] at this
        have HTT := Lib.hid htt
        clear htt hn
        subst hkl
        go_wp2
        go_ret
        exact ⟨by rw [HTT.out]; exact rfl, n, HN.out⟩
  · have hf : fs ≠ gs := fun e => hne (by rw [← e, ← hlen])
    have hres : Hid (decide (fs = gs) = false) := Lib.hid (decide_eq_false hf)
    rw [hres.out]
    have hln : ((len : Int) == (gs.length : Int)) = false := by simp; omega
    clear hf hlen
    go_enter Try.func49, Try.ntmps49
    go_wp2
    go_ret
    exact ⟨rfl, 0, rfl⟩
end Go.Proofs.Ytdmcjomcbhdcbaa

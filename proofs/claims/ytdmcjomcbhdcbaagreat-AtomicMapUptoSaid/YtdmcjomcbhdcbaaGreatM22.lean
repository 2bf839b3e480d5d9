/- The files of a drive ahead of a writing and behind it.; What a drive may show of each name but the temporary file's, now and behind any loss of power. No program in sight.; A file written whole through a wound: what comes of it, whatever strikes. No program in sight. -/
import Derived.Test.YtdmcjomcbhdcbaaGreatM21
import Derived.Deep.DeepCutAuto
import Derived.BigQuiet
import Derived.Test.YtdmcjomcbhdcbaaGreatM18
import Derived.Test.YtdmcjomcbhdcbaaGreatM8
set_option linter.unusedVariables false
namespace Go.Proofs.YtdmcjomcbhdcbaaGreat
open Go.RowKit Go.Maps

/-- What a name shows among files. -/
def fileOf : List File → List UInt8 → Option (List UInt8)
  | [], _ => none
  | f :: r, s => if f.1 = s then some f.2 else fileOf r s
theorem atI_cases (fs : List File) (s : List UInt8) : (atI fs s = -1 ∧ fileOf fs s = none) ∨ ∃ (k : Nat) (f : File), atI fs s = (k : Int) ∧ fs[k]? = some f ∧ f.1 = s ∧ fileOf fs s = some f.2 := by
  induction fs with
  | nil => exact .inl ⟨rfl, rfl⟩
  | cons a r ih =>
    unfold atI fileOf
    by_cases h : a.1 = s
    · rw [if_pos h, if_pos h]
      exact .inr ⟨0, a, rfl, rfl, h, rfl⟩
    · rw [if_neg h, if_neg h]
      rcases ih with ⟨h1, h2⟩ | ⟨k, f, h1, h2, h3, h4⟩
      · rw [h1]; exact .inl ⟨rfl, h2⟩
      · rw [h1, if_neg (by omega)]
        exact .inr ⟨k + 1, f, by omega, by simpa using h2, h3, h4⟩
theorem fileOf_mem {fs : List File} {k : Nat} {f : File} (h : fs[k]? = some f) : fileOf fs f.1 ≠ none := by
  induction fs generalizing k with
  | nil => simp at h
  | cons a r ih =>
    unfold fileOf
    split
    · exact fun e => by cases e
    · rename_i h0
      cases k with
      | zero => simp at h; subst h; exact absurd rfl h0
      | succ k => exact ih (by simpa using h)
theorem FilesAt.drewN {w : World} {base : Nat} {v : Value} {fs : List File} (h : FilesAt w base v fs) (n : Nat) : FilesAt (w.drewN n) base v fs := h.below (below_drewN (Below.refl _ _) n)
theorem at_at (fs : List File) (base : Nat) (A : Option Addr) (c n : Nat) (hn : n = fs.length) (s : List UInt8) (w : World) (h : FilesAt w base (.slice A n c) fs) (hfs : n ≤ 1099511627776) :
    Calls Tryz.prog 27 #[.slice A n c, .string ⟨s.toArray⟩] w fun e w' => e = .returned (.int .i64 (atI fs s)) ∧ w = w' := by
  obtain ⟨A', c', vals, e, hin, hsp⟩ := h.filesIn
  injection e with e1 e2 e3
  subst e1
  exact at_any fs vals A c n hn s w hin hsp hfs

set_option maxRecDepth 100000 in
set_option maxHeartbeats 8000000 in
theorem turned_any (os ns : List File) (bo bn : Nat) (A B : Option Addr) (no nn ca cb : Nat) (hno : no = os.length) (hnn : nn = ns.length) (w : World) (ho : FilesAt w bo (.slice A no ca) os) (hn : FilesAt w bn (.slice B nn cb) ns) (lo : no ≤ 1099511627776) (ln : nn ≤ 1099511627776)
    (nm : List UInt8) (D : Option Addr) (dn dc : Nat) (bs : List UInt8) (hdn : dn = bs.length) (hD : Reads w w.heap.size 1 D dn (bs.map B8)) (x : Int)
    (hown : ∀ (k : Nat) (f : File), ns[k]? = some f → fileOf ns f.1 = some f.2)
    (H1 : nm = [116] ∨ fileOf ns nm = some bs ∨ (x ≠ 0 ∧ fileOf ns nm = fileOf os nm)) (H2 : ∀ s, s ≠ [116] → s ≠ nm → fileOf ns s = fileOf os s) :
    Calls Tryz.prog 15 #[.slice A no ca, .slice B nn cb, .string ⟨nm.toArray⟩, .slice D dn dc, .int .i64 x] w fun e w' => e = .returned (.bool true) ∧ ∃ n, w' = w.drewN n := by
  have HO := Lib.hid ho
  have HN := Lib.hid hn
  have HNO := Lib.hid hno
  have HNN := Lib.hid hnn
  have HOW := Lib.hid hown
  have HH1 := Lib.hid H1
  have HH2 := Lib.hid H2
  have HDC : Hid (∀ m, (convert 26 9 (.slice D dn dc)).run Tryz.prog (w.drewN m) = .ok (.string ⟨bs.toArray⟩) (w.drewN m)) := Lib.hid fun m => by subst hdn; exact conv_any _ _ D bs dc (hD.drewN m)
  have HATO : Hid (∀ m W (s : List UInt8), W = w.drewN m → Calls Tryz.prog 27 #[.slice A no ca, .string ⟨s.toArray⟩] W fun e w' => e = .returned (.int .i64 (atI os s)) ∧ W = w') := Lib.hid fun m W s hW => by subst hW; exact at_at os bo A ca no hno s _ (ho.drewN m) lo
  have HATN : Hid (∀ m W (s : List UInt8), W = w.drewN m → Calls Tryz.prog 27 #[.slice B nn cb, .string ⟨s.toArray⟩] W fun e w' => e = .returned (.int .i64 (atI ns s)) ∧ W = w') := Lib.hid fun m W s hW => by subst hW; exact at_at ns bn B cb nn hnn s _ (hn.drewN m) ln
  clear ho hn hno hnn hown H1 H2 hdn hD
  go_enter Tryz.func15, Tryz.ntmps15
  go_upto_region 3 with (first
    | (go_at_call 27; have j4 := HATN.out 0 w nm rfl; with_reducible refine j4.mono ?_; clear j4; rintro e w' ⟨rfl, rfl⟩)
    | (go_at_call 27; have j4 := HATO.out 0 w nm rfl; with_reducible refine j4.mono ?_; clear j4; rintro e w' ⟨rfl, rfl⟩)
    | fail)
  obtain ⟨fr, hfr⟩ : ∃ fr, fr = decide (fileOf ns nm = some bs) := ⟨_, rfl⟩
  obtain ⟨kp, hkp⟩ : ∃ kp, kp = decide (fileOf ns nm = fileOf os nm) := ⟨_, rfl⟩
  have HFR := Lib.hid hfr
  have HKP := Lib.hid hkp
  clear hfr hkp
  obtain ⟨i, hi⟩ : ∃ i, i = atI ns nm := ⟨_, rfl⟩
  obtain ⟨j, hj⟩ : ∃ j, j = atI os nm := ⟨_, rfl⟩
  rw [← hi, ← hj]
  have HI := Lib.hid hi
  have HJ := Lib.hid hj
  clear hi hj
  go_cut [13] (fun s13 wx => s13 = .bool fr ∧ Hid (∃ n, wx = w.drewN n))
  case first =>
    have hdc := HDC.out
    rcases atI_cases ns nm with ⟨h1, h2⟩ | ⟨k, f, h1, h2, h3, h4⟩
    · have hi := HI.out.trans h1
      subst hi
      have hf : fr = false := by rw [HFR.out, h2]; rfl
      subst hf
      clear h1 h2
      go_quiet (fail)
      go_wp2_with fail
      go_meet
      exact ⟨rfl, Lib.hid ⟨_, rfl⟩⟩
    · have hi := HI.out.trans h1
      subst hi
      have hlt : k < nn := by rw [HNN.out]; exact (List.getElem?_eq_some_iff.1 h2).1
      obtain ⟨g, xb, db, rfl, y0, y1, _, hrb⟩ := HN.out.at_ HNN.out h2
      have hvb : ∀ m, (convert 26 9 (.slice xb f.2.length db)).run Tryz.prog (w.drewN m) = .ok (.string ⟨f.2.toArray⟩) (w.drewN m) := fun m => conv_any _ w.heap.size xb f.2 db ((Reads.of_own hrb).drewN m)
      have hf : fr = decide (f.2 = bs) := by rw [HFR.out, h4]; simp
      obtain ⟨f1, f2⟩ := f
      simp only [strV] at y0 y1 hvb hf
      generalize f2.length = lf at y1 hvb
      clear h1 h2 h3 h4 hrb
      by_cases he : f2 = bs
      · rw [decide_eq_true he] at hf
        subst hf
        have e1 : (f2 == bs) = true := by rw [beq_iff_eq]; exact he
        clear he
        go_quiet (fail)
        go_wp2_with fail
        go_meet
        exact ⟨rfl, Lib.hid ⟨_, rfl⟩⟩
      · rw [decide_eq_false he] at hf
        subst hf
        have e1 : (f2 == bs) = false := by rw [beq_eq_false_iff_ne]; exact he
        clear he
        go_quiet (fail)
        go_wp2_with fail
        go_meet
        exact ⟨rfl, Lib.hid ⟨_, rfl⟩⟩
  case rest =>
  obtain ⟨rfl, hw1⟩ := hcut
  have HWC := hw1
  have HOC : Hid (FilesAt wc bo (.slice A no ca) os) := Lib.hid (by obtain ⟨q, e⟩ := HWC.out; rw [e]; exact HO.out.drewN q)
  have HNC : Hid (FilesAt wc bn (.slice B nn cb) ns) := Lib.hid (by obtain ⟨q, e⟩ := HWC.out; rw [e]; exact HN.out.drewN q)
  have HWD : Hid (∀ q, ∃ n, wc.drewN q = w.drewN n) := Lib.hid fun q => by obtain ⟨r, e⟩ := HWC.out; exact ⟨r + q, by rw [e, World.drewN_drewN]⟩
  clear hw1
  go_upto_region 4 with fail
  go_cut [14] (fun s14 wx => s14 = .bool kp ∧ Hid (∃ n, wx = w.drewN n))
  case first =>
    rcases atI_cases ns nm with ⟨h1, h2⟩ | ⟨k, f, h1, h2, h3, h4⟩
    · have hi := HI.out.trans h1
      subst hi
      rcases atI_cases os nm with ⟨h5, h6⟩ | ⟨k2, f2, h5, h6, h7, h8⟩
      · have hj := HJ.out.trans h5
        subst hj
        have hf : kp = true := by rw [HKP.out, h2, h6]; rfl
        subst hf
        clear h1 h2 h5 h6
        go_big_quiet (fail)
        go_wp2_with fail
        go_meet
        exact ⟨rfl, Lib.hid (HWD.out _)⟩
      · have hj := HJ.out.trans h5
        subst hj
        have hf : kp = false := by rw [HKP.out, h2, h8]; rfl
        subst hf
        have t1k2 : decide ((k2 : Int) < 0) = false := by rw [decide_eq_false_iff_not]; omega
        have t2k2 : decide ((0 : Int) ≤ (k2 : Int)) = true := by rw [decide_eq_true_eq]; omega
        clear h1 h2 h5 h6 h7 h8
        go_big_quiet (fail)
        go_wp2_with fail
        go_meet
        exact ⟨rfl, Lib.hid (HWD.out _)⟩
    · have hi := HI.out.trans h1
      subst hi
      have hlt : k < nn := by rw [HNN.out]; exact (List.getElem?_eq_some_iff.1 h2).1
      obtain ⟨g, xb, db, rfl, y0, y1, _, hrb⟩ := HNC.out.at_ HNN.out h2
      have hvb : ∀ m, (convert 26 9 (.slice xb f.2.length db)).run Tryz.prog (wc.drewN m) = .ok (.string ⟨f.2.toArray⟩) (wc.drewN m) := fun m => conv_any _ wc.heap.size xb f.2 db ((Reads.of_own hrb).drewN m)
      rcases atI_cases os nm with ⟨h5, h6⟩ | ⟨k2, f2, h5, h6, h7, h8⟩
      · have hj := HJ.out.trans h5
        subst hj
        have hf : kp = false := by rw [HKP.out, h4, h6]; simp
        subst hf
        have t1k : decide ((k : Int) < 0) = false := by rw [decide_eq_false_iff_not]; omega
        have t2k : decide ((0 : Int) ≤ (k : Int)) = true := by rw [decide_eq_true_eq]; omega
        clear h1 h2 h3 h4 h5 h6 hrb y0 y1 hvb
        go_big_quiet (fail)
        go_wp2_with fail
        go_meet
        exact ⟨rfl, Lib.hid (HWD.out _)⟩
      · have hj := HJ.out.trans h5
        subst hj
        have hlt2 : k2 < no := by rw [HNO.out]; exact (List.getElem?_eq_some_iff.1 h6).1
        obtain ⟨g2, xa, da, rfl, z0, z1, _, hra⟩ := HOC.out.at_ HNO.out h6
        have hva : ∀ m, (convert 26 9 (.slice xa f2.2.length da)).run Tryz.prog (wc.drewN m) = .ok (.string ⟨f2.2.toArray⟩) (wc.drewN m) := fun m => conv_any _ wc.heap.size xa f2.2 da ((Reads.of_own hra).drewN m)
        have hf : kp = decide (f.2 = f2.2) := by rw [HKP.out, h4, h8]; simp
        have t1k : decide ((k : Int) < 0) = false := by rw [decide_eq_false_iff_not]; omega
        have t2k : decide ((0 : Int) ≤ (k : Int)) = true := by rw [decide_eq_true_eq]; omega
        have t1k2 : decide ((k2 : Int) < 0) = false := by rw [decide_eq_false_iff_not]; omega
        have t2k2 : decide ((0 : Int) ≤ (k2 : Int)) = true := by rw [decide_eq_true_eq]; omega
        obtain ⟨f1, fd⟩ := f
        obtain ⟨e1, ed⟩ := f2
        simp only [strV] at y0 y1 hvb z0 z1 hva hf
        generalize fd.length = lf at y1 hvb
        generalize ed.length = le at z1 hva
        clear h1 h2 h3 h4 h5 h6 h7 h8 hrb hra
        by_cases he : fd = ed
        · rw [decide_eq_true he] at hf
          subst hf
          have e1 : (fd == ed) = true := by rw [beq_iff_eq]; exact he
          clear he
          go_big_quiet (fail)
          go_wp2_with fail
          go_meet
          exact ⟨rfl, Lib.hid (HWD.out _)⟩
        · rw [decide_eq_false he] at hf
          subst hf
          have e1 : (fd == ed) = false := by rw [beq_eq_false_iff_ne]; exact he
          clear he
          go_big_quiet (fail)
          go_wp2_with fail
          go_meet
          exact ⟨rfl, Lib.hid (HWD.out _)⟩
  case rest =>
  have HWC1 := HWC
  clear HOC HNC HWD
  obtain ⟨W1, rfl⟩ : ∃ x, x = wc := ⟨_, rfl⟩
  obtain ⟨rfl, HW2⟩ := hcut
  go_upto_region 5 with fail
  go_cut [79] (fun s79 wx => s79 = .bool false ∧ Hid (∃ n, wx = w.drewN n))
  case first =>
    by_cases ht : nm = [116]
    · subst ht
      go_wp2_with fail
      go_meet
      exact ⟨rfl, HW2⟩
    · have t1 : (nm == [116]) = false := by rw [beq_eq_false_iff_ne]; exact ht
      have t2 : (nm != [116]) = true := by rw [bne_iff_ne]; exact ht
      have hc : fr = true ∨ fr = false ∧ x ≠ 0 ∧ kp = true := by
        rcases HH1.out with h | h | ⟨h1, h2⟩
        · exact absurd h ht
        · exact .inl (by rw [HFR.out, decide_eq_true h])
        · cases hf : fr with
          | true => exact .inl rfl
          | false => exact .inr ⟨rfl, h1, by rw [HKP.out, decide_eq_true h2]⟩
      rcases hc with hf | ⟨hf, hx, hk⟩
      · subst hf
        clear ht
        go_wp2_with fail
        go_meet
        exact ⟨rfl, HW2⟩
      · subst hf
        subst hk
        have t3 : (x == 0) = false := by rw [beq_eq_false_iff_ne]; exact hx
        clear ht hx
        go_wp2_with fail
        go_meet
        exact ⟨rfl, HW2⟩
  case rest =>
  obtain ⟨rfl, HW3⟩ := hcut
  clear HW2
  go_wp2_with fail
  go_loopw [15, 16] (fun s15 _ wr => ∃ k : Nat, k ≤ nn ∧ s15 = .int .i64 k ∧ Hid (∃ n, wr = w.drewN n)) (fun s _ _ => nn - (intOf s).toNat)
  case atStart => exact ⟨0, Nat.zero_le _, rfl, HW3⟩
  case round =>
    obtain ⟨k, hk, rfl, HWR⟩ := hrel
    by_cases hlt : k < nn
    · obtain ⟨f, h2⟩ : ∃ f, ns[k]? = some f := ⟨_, List.getElem?_eq_getElem (by rw [← HNN.out]; exact hlt)⟩
      have HF := Lib.hid h2
      have HOC : Hid (FilesAt wr bo (.slice A no ca) os) := Lib.hid (by obtain ⟨q, e⟩ := HWR.out; rw [e]; exact HO.out.drewN q)
      have HNC : Hid (FilesAt wr bn (.slice B nn cb) ns) := Lib.hid (by obtain ⟨q, e⟩ := HWR.out; rw [e]; exact HN.out.drewN q)
      have HWD : Hid (∀ q, ∃ n, wr.drewN q = w.drewN n) := Lib.hid fun q => by obtain ⟨r, e⟩ := HWR.out; exact ⟨r + q, by rw [e, World.drewN_drewN]⟩
      obtain ⟨g, xb, db, rfl, y0, y1, _, hrb⟩ := HNC.out.at_ HNN.out h2
      have hvb : ∀ m, (convert 26 9 (.slice xb f.2.length db)).run Tryz.prog (wr.drewN m) = .ok (.string ⟨f.2.toArray⟩) (wr.drewN m) := fun m => conv_any _ wr.heap.size xb f.2 db ((Reads.of_own hrb).drewN m)
      have HAT1 : Hid (Calls Tryz.prog 27 #[.slice A no ca, .string ⟨f.1.toArray⟩] wr fun e w' => e = .returned (.int .i64 (atI os f.1)) ∧ wr = w') := Lib.hid (by obtain ⟨q, e⟩ := HWR.out; exact HATO.out q wr f.1 e)
      obtain ⟨f1, fd⟩ := f
      simp only [strV] at y0 y1 hvb HAT1
      generalize fd.length = lf at y1 hvb
      obtain ⟨i2, hi2⟩ : ∃ i2, i2 = atI os f1 := ⟨_, rfl⟩
      rw [← hi2] at HAT1
      have HI2 := Lib.hid hi2
      clear h2 hrb hi2
      go_upto_region 11 with (go_at_call 27; refine HAT1.out.mono ?_; rintro e w' ⟨rfl, rfl⟩)
      by_cases ht : f1 = [116]
      · have t1 : (f1 == [116]) = true := by rw [beq_iff_eq]; exact ht
        have t2 : (f1 != [116]) = false := by rw [ht]; rfl
        clear ht
        go_big_quiet (fail)
        go_wp2_with fail
        go_roundw
        case rel => exact ⟨k + 1, by omega, by go_num, Lib.hid (HWD.out _)⟩
        case measure => first | (simp [intOf]; done) | (simp [intOf]; omega)
      · have t1 : (f1 == [116]) = false := by rw [beq_eq_false_iff_ne]; exact ht
        have t2 : (f1 != [116]) = true := by rw [bne_iff_ne]; exact ht
        by_cases hm : f1 = nm
        · have t3 : (f1 == nm) = true := by rw [beq_iff_eq]; exact hm
          have t4 : (f1 != nm) = false := by rw [hm]; simp
          clear ht hm
          go_big_quiet (fail)
          go_wp2_with fail
          go_roundw
          case rel => exact ⟨k + 1, by omega, by go_num, Lib.hid (HWD.out _)⟩
          case measure => first | (simp [intOf]; done) | (simp [intOf]; omega)
        · have t3 : (f1 == nm) = false := by rw [beq_eq_false_iff_ne]; exact hm
          have t4 : (f1 != nm) = true := by rw [bne_iff_ne]; exact hm
          have hs : fileOf os f1 = some fd := (HH2.out f1 ht hm).symm.trans (HOW.out k _ HF.out)
          rcases atI_cases os f1 with ⟨h5, h6⟩ | ⟨k2, f2, h5, h6, h7, h8⟩
          · rw [hs] at h6; cases h6
          · have hi := HI2.out.trans h5
            subst hi
            have hlt2 : k2 < no := by rw [HNO.out]; exact (List.getElem?_eq_some_iff.1 h6).1
            obtain ⟨g2, xa, da, rfl, z0, z1, _, hra⟩ := HOC.out.at_ HNO.out h6
            have hva : ∀ m, (convert 26 9 (.slice xa f2.2.length da)).run Tryz.prog (wr.drewN m) = .ok (.string ⟨f2.2.toArray⟩) (wr.drewN m) := fun m => conv_any _ wr.heap.size xa f2.2 da ((Reads.of_own hra).drewN m)
            have hdd : f2.2 = fd := by rw [h8] at hs; injection hs
            obtain ⟨e1, ed⟩ := f2
            simp only [strV] at z0 z1 hva hdd
            generalize ed.length = le at z1 hva
            subst hdd
            have t5 : (ed == ed) = true := by simp
            have t6 : (ed != ed) = false := by simp
            have t1k2 : decide ((k2 : Int) < 0) = false := by rw [decide_eq_false_iff_not]; omega
            have t2k2 : decide ((0 : Int) ≤ (k2 : Int)) = true := by rw [decide_eq_true_eq]; omega
            clear h5 h6 h7 h8 hra hs ht hm
            go_big_quiet (fail)
            go_wp2_with fail
            go_roundw
            case rel => exact ⟨k + 1, by omega, by go_num, Lib.hid (HWD.out _)⟩
            case measure => first | (simp [intOf]; done) | (simp [intOf]; omega)
    · have hkn : k = nn := by omega
      have HKN := Lib.hid hkn
      have hge : decide ((k : Int) < (nn : Int)) = false := by rw [decide_eq_false_iff_not]; omega
      clear hkn
      go_wp2_with fail
      go_loopw [17] (fun s17 wr => ∃ k3 : Nat, k3 ≤ no ∧ s17 = .int .i64 k3 ∧ Hid (∃ n, wr = w.drewN n)) (fun s _ => no - (intOf s).toNat)
      case atStart => exact ⟨0, Nat.zero_le _, rfl, HWR⟩
      case round =>
        obtain ⟨k3, hk3, rfl, HWS⟩ := hrel
        by_cases hlt3 : k3 < no
        · obtain ⟨f, h2⟩ : ∃ f, os[k3]? = some f := ⟨_, List.getElem?_eq_getElem (by rw [← HNO.out]; exact hlt3)⟩
          have HF := Lib.hid h2
          have HOC : Hid (FilesAt wr bo (.slice A no ca) os) := Lib.hid (by obtain ⟨q, e⟩ := HWS.out; rw [e]; exact HO.out.drewN q)
          obtain ⟨g, xb, db, rfl, y0, y1, _, hrb⟩ := HOC.out.at_ HNO.out h2
          have HAT1 : Hid (Calls Tryz.prog 27 #[.slice B nn cb, .string ⟨f.1.toArray⟩] wr fun e w' => e = .returned (.int .i64 (atI ns f.1)) ∧ wr = w') := Lib.hid (by obtain ⟨q, e⟩ := HWS.out; exact HATN.out q wr f.1 e)
          obtain ⟨f1, fd⟩ := f
          simp only [strV] at y0 y1 HAT1
          obtain ⟨i2, hi2⟩ : ∃ i2, i2 = atI ns f1 := ⟨_, rfl⟩
          rw [← hi2] at HAT1
          have HI2 := Lib.hid hi2
          clear h2 hrb hi2 y1
          by_cases ht : f1 = [116]
          · have t1 : (f1 == [116]) = true := by rw [beq_iff_eq]; exact ht
            have t2 : (f1 != [116]) = false := by rw [ht]; rfl
            clear ht
            go_wp2_with fail
            go_roundw
            case rel => exact ⟨k3 + 1, by omega, by go_num, HWS⟩
            case measure => first | (simp [intOf]; done) | (simp [intOf]; omega)
          · have t1 : (f1 == [116]) = false := by rw [beq_eq_false_iff_ne]; exact ht
            have t2 : (f1 != [116]) = true := by rw [bne_iff_ne]; exact ht
            by_cases hm : f1 = nm
            · have t3 : (f1 == nm) = true := by rw [beq_iff_eq]; exact hm
              have t4 : (f1 != nm) = false := by rw [hm]; simp
              clear ht hm
              go_wp2_with fail
              go_roundw
              case rel => exact ⟨k3 + 1, by omega, by go_num, HWS⟩
              case measure => first | (simp [intOf]; done) | (simp [intOf]; omega)
            · have t3 : (f1 == nm) = false := by rw [beq_eq_false_iff_ne]; exact hm
              have t4 : (f1 != nm) = true := by rw [bne_iff_ne]; exact hm
              have hs : fileOf ns f1 ≠ none := fun e => fileOf_mem HF.out ((HH2.out f1 ht hm).symm.trans e)
              rcases atI_cases ns f1 with ⟨h5, h6⟩ | ⟨k2, f2, h5, h6, h7, h8⟩
              · exact absurd h6 hs
              · have hi := HI2.out.trans h5
                subst hi
                have t1k2 : decide ((k2 : Int) < 0) = false := by rw [decide_eq_false_iff_not]; omega
                have t2k2 : decide ((0 : Int) ≤ (k2 : Int)) = true := by rw [decide_eq_true_eq]; omega
                clear h5 h6 h7 h8 hs ht hm
                go_upto_if 157 with (go_at_call 27; refine HAT1.out.mono ?_; rintro e w' ⟨rfl, rfl⟩)
                go_wp2_with fail
                go_roundw
                case rel => exact ⟨k3 + 1, by omega, by go_num, HWS⟩
                case measure => first | (simp [intOf]; done) | (simp [intOf]; omega)
        · have hge3 : decide ((k3 : Int) < (no : Int)) = false := by rw [decide_eq_false_iff_not]; omega
          go_wp2_with fail
          go_ret
          exact ⟨rfl, HWS.out⟩
end Go.Proofs.YtdmcjomcbhdcbaaGreat
namespace Go.Proofs.YtdmcjomcbhdcbaaGreat
open Go.RowKit Go.Maps

theorem dget_stp {D : Dir} (h : Tidy D) (a : Nm) (o : Option Nat) (s : Nm) : dget (applyStp D (a, o)) s = if s = a then o else dget D s := by
  cases o with
  | none =>
    show dget (D.del (key a)) s = _
    by_cases e : s = a
    · subst e; rw [if_pos rfl, dget_del_same]
    · rw [if_neg e, dget_del_other e]
  | some i =>
    show dget (D.put (key a) (num i)) s = _
    by_cases e : s = a
    · subst e; rw [if_pos rfl, dget_put_same h.isMap]
    · rw [if_neg e, dget_put_other e]
theorem has_of_dget {D : Dir} {s : Nm} {i : Nat} (h : dget D s = some i) : has D (key s) = true := by
  cases hh : has D (key s) with
  | true => rfl
  | false =>
    have : D.atKey (key s) .nil = .nil := atKey_of_not_has hh .nil
    unfold dget at h
    rw [this] at h; cases h
theorem dget_of_not_has {D : Dir} {s : Nm} (h : has D (key s) = false) : dget D s = none := by
  have : D.atKey (key s) .nil = .nil := atKey_of_not_has h .nil
  unfold dget; rw [this]; rfl

theorem has_dnamesK {D : Dir} (hk : NmKeys D) (ht : Tidy D) {s : Nm} (h : has D (key s) = true) : s ∈ dnames D := by
  obtain ⟨es, rfl, _⟩ := ht
  rw [has_eq, List.any_eq_true] at h
  obtain ⟨p, hp, he⟩ := h
  rw [(dnames_perm _).mem_iff]
  exact List.mem_map.2 ⟨p, hp, by rw [sameKey_key he]; rfl⟩

/-- A name of the new directory behind a loss of power leads to its number among the names. -/
theorem dget_crashDir {D : Dir} (hk : NmKeys D) (ht : Tidy D) (hf : Full D) : ∀ k, k ≤ (dnames D).length → ∀ s, (∀ j, j < k → (dnames D)[j]? = some s → dget (Drv.crashDir D k) s = some j) ∧ (s ∉ (dnames D).take k → dget (Drv.crashDir D k) s = none)
  | 0, _, s => ⟨fun j hj => by omega, fun _ => rfl⟩
  | k + 1, hl, s => by
    have ih := dget_crashDir hk ht hf k (by omega) s
    have hkl : k < (dnames D).length := by omega
    have hg : (dnames D)[k]? = some ((dnames D).getD k []) := by rw [List.getElem?_eq_getElem hkl]; simp [List.getD, hkl]
    have hT := (crashDir_facts hk ht hf k (by omega)).1
    have hnd := dnames_nodup hk ht
    have e : dget (Drv.crashDir D (k + 1)) s = if s = (dnames D).getD k [] then some k else dget (Drv.crashDir D k) s := dget_stp hT ((dnames D).getD k []) (some k) s
    refine ⟨fun j hj hs => ?_, fun hs => ?_⟩
    · rw [e]
      by_cases hjk : j = k
      · subst hjk
        rw [hg] at hs; injection hs with hs
        rw [if_pos hs.symm]
      · have hjl : j < (dnames D).length := by omega
        have hne : s ≠ (dnames D).getD k [] := by
          intro h
          rw [h, ← hg] at hs
          rw [List.getElem?_eq_getElem hjl, List.getElem?_eq_getElem hkl] at hs
          injection hs with hs
          exact (List.pairwise_iff_getElem.1 hnd) j k hjl hkl (by omega) hs
        rw [if_neg hne]
        exact ih.1 j (by omega) hs
    · rw [List.take_add_one, hg] at hs
      simp only [Option.toList_some, List.mem_append, List.mem_singleton, not_or] at hs
      rw [e, if_neg hs.2]
      exact ih.2 hs.1

namespace Drv
/-- The bytes of a name's body. -/
def cont (S : Drv) (o : Option Nat) : Option (List UInt8) := o.map fun i => (S.body i).data
/-- What stands under a name. -/
def shows (S : Drv) (s : Nm) : Option (List UInt8) := S.cont (dget S.now s)
/-- A body that a name leads to, now, safely, or by what is pending. -/
def leads (S : Drv) (s : Nm) (i : Nat) : Prop := dget S.now s = some i ∨ dget S.kept s = some i ∨ ∃ c ∈ S.pending, (s, some i) ∈ c
end Drv
def tmpN : Nm := [116]
/-- What stands under each name but the temporary file's, and what any loss of power leaves, is as P says; all these bytes are safe. -/
structure Holds (S : Drv) (P : Nm → Option (List UInt8) → Prop) : Prop where
  now : ∀ s, s ≠ tmpN → P s (S.shows s)
  kept : ∀ s, s ≠ tmpN → P s (S.cont (dget S.kept s))
  pend : ∀ c ∈ S.pending, ∀ s o, (s, o) ∈ c → s ≠ tmpN → P s (S.cont o)
  whole : ∀ s i, s ≠ tmpN → S.leads s i → i < S.bodies.length ∧ (S.body i).safe = (S.body i).data.length
theorem Holds.mono {S : Drv} {P Q : Nm → Option (List UInt8) → Prop} (h : Holds S P) (hPQ : ∀ s x, s ≠ tmpN → P s x → Q s x) : Holds S Q :=
  ⟨fun s hs => hPQ s _ hs (h.now s hs), fun s hs => hPQ s _ hs (h.kept s hs), fun c hc s o ho hs => hPQ s _ hs (h.pend c hc s o ho hs), h.whole⟩

/-- Nothing turns but bodies that no such name leads to. -/
theorem Holds.bodies {S T : Drv} {P : Nm → Option (List UInt8) → Prop} (h : Holds S P) (hn : T.now = S.now) (hk : T.kept = S.kept) (hp : T.pending = S.pending) (hl : S.bodies.length ≤ T.bodies.length)
    (hb : ∀ s i, s ≠ tmpN → S.leads s i → (T.body i).data = (S.body i).data ∧ (T.body i).safe = (T.body i).data.length) : Holds T P := by
  have hleads : ∀ s i, T.leads s i ↔ S.leads s i := fun s i => by unfold Drv.leads; rw [hn, hk, hp]
  have hc : ∀ s o, s ≠ tmpN → (∀ i, o = some i → S.leads s i) → T.cont o = S.cont o := fun s o hs ho => by
    cases o with
    | none => rfl
    | some i => show some (T.body i).data = some (S.body i).data; rw [(hb s i hs (ho i rfl)).1]
  refine ⟨fun s hs => ?_, fun s hs => ?_, fun c hcm s o ho hs => ?_, fun s i hs hi => ?_⟩
  · unfold Drv.shows; rw [hn, hc s _ hs fun i e => .inl e]; exact h.now s hs
  · rw [hk, hc s _ hs fun i e => .inr (.inl e)]; exact h.kept s hs
  · rw [hp] at hcm
    rw [hc s o hs fun i e => .inr (.inr ⟨c, hcm, by rw [← e]; exact ho⟩)]; exact h.pend c hcm s o ho hs
  · rw [hleads] at hi
    exact ⟨Nat.lt_of_lt_of_le (h.whole s i hs hi).1 hl, (hb s i hs hi).2⟩

theorem Holds.bodies_shows {S T : Drv} (hn : T.now = S.now) (hb : ∀ s i, s ≠ tmpN → S.leads s i → (T.body i).data = (S.body i).data) : ∀ s, s ≠ tmpN → T.shows s = S.shows s := fun s hs => by
  unfold Drv.shows
  rw [hn]
  cases hg : dget S.now s with
  | none => rfl
  | some i => show some (T.body i).data = some (S.body i).data; rw [hb s i hs (.inl hg)]
theorem change_now (S : Drv) (c : List Stp) : (S.change c).now = applyC S.now c := Drv.chAll_now S c
theorem change_kept (S : Drv) (c : List Stp) : (S.change c).kept = S.kept := (Drv.chAll_bodies S c).2.2.1
theorem change_bodies (S : Drv) (c : List Stp) : (S.change c).bodies = S.bodies := (Drv.chAll_bodies S c).1
theorem change_pending (S : Drv) (c : List Stp) : (S.change c).pending = S.pending ++ [c] := by
  show (S.chAll c).pending ++ [c] = _
  rw [(Drv.chAll_bodies S c).2.2.2]
theorem change_body (S : Drv) (c : List Stp) (i : Nat) : (S.change c).body i = S.body i := by unfold Drv.body; rw [change_bodies]
theorem change_cont (S : Drv) (c : List Stp) (o : Option Nat) : (S.change c).cont o = S.cont o := by
  cases o with
  | none => rfl
  | some i => show some ((S.change c).body i).data = some (S.body i).data; rw [change_body]

/-- A change of names. -/
theorem Holds.change {S : Drv} {P Q : Nm → Option (List UInt8) → Prop} (h : Holds S P) (ht : Tidy S.now) (c : List Stp) (hPQ : ∀ s x, s ≠ tmpN → P s x → Q s x)
    (hc : ∀ s o, (s, o) ∈ c → s ≠ tmpN → Q s (S.cont o) ∧ ∀ i, o = some i → i < S.bodies.length ∧ (S.body i).safe = (S.body i).data.length)
    (hsh : ∀ s, s ≠ tmpN → dget (applyC S.now c) s = dget S.now s ∨ ∃ o, (s, o) ∈ c ∧ dget (applyC S.now c) s = o) : Holds (S.change c) Q := by
  refine ⟨fun s hs => ?_, fun s hs => ?_, fun d hd s o ho hs => ?_, fun s i hs hi => ?_⟩
  · unfold Drv.shows
    rw [change_now, change_cont]
    rcases hsh s hs with e | ⟨o, ho, e⟩
    · rw [e]; exact hPQ s _ hs (h.now s hs)
    · rw [e]; exact (hc s o ho hs).1
  · rw [change_kept, change_cont]; exact hPQ s _ hs (h.kept s hs)
  · rw [change_pending] at hd
    rw [change_cont]
    rcases List.mem_append.1 hd with hd | hd
    · exact hPQ s _ hs (h.pend d hd s o ho hs)
    · rw [List.mem_singleton.1 hd] at ho; exact (hc s o ho hs).1
  · rw [change_bodies, change_body]
    unfold Drv.leads at hi
    rw [change_now, change_kept, change_pending] at hi
    rcases hi with e | e | ⟨d, hd, hm⟩
    · rcases hsh s hs with e' | ⟨o, ho, e'⟩
      · exact h.whole s i hs (.inl (e'.symm.trans e))
      · exact (hc s o ho hs).2 i (e'.symm.trans e)
    · exact h.whole s i hs (.inr (.inl e))
    · rcases List.mem_append.1 hd with hd | hd
      · exact h.whole s i hs (.inr (.inr ⟨d, hd, hm⟩))
      · rw [List.mem_singleton.1 hd] at hm; exact (hc s _ hm hs).2 i rfl

/-- A body that no name but the temporary file's leads to, and that this one leads to. -/
structure Fresh (S : Drv) (i : Nat) : Prop where
  here : dget S.now tmpN = some i
  no : ∀ s, s ≠ tmpN → ¬S.leads s i
  lt : i < S.bodies.length

theorem create_ok {S T : Drv} (h : S.create tmpN = (T, 0)) : T = ({ S with bodies := S.bodies ++ [⟨[], 0⟩] } : Drv).change [(tmpN, some S.bodies.length)] := by
  unfold Drv.create at h
  split at h
  · injection h with _ h; cases h
  · split at h
    · injection h with _ h; cases h
    · injection h with h _; exact h.symm
theorem create_no {S T : Drv} {x : Int} {s : Nm} (h : S.create s = (T, x)) (hx : x ≠ 0) : T = S := by
  unfold Drv.create at h
  split at h
  · injection h with h _; exact h.symm
  · split at h
    · injection h with h _; exact h.symm
    · injection h with _ h; exact absurd h.symm hx
theorem Holds.create {S T : Drv} {P : Nm → Option (List UInt8) → Prop} (h : Holds S P) (ht : Tidy S.now) (hc : S.create tmpN = (T, 0)) : Holds T P ∧ Fresh T S.bodies.length ∧ (T.body S.bodies.length).data = [] ∧ ∀ s, s ≠ tmpN → T.shows s = S.shows s := by
  rw [create_ok hc]
  generalize hS' : ({ S with bodies := S.bodies ++ [⟨[], 0⟩] } : Drv) = S'
  have e1 : S'.now = S.now := by rw [← hS']
  have e2 : S'.kept = S.kept := by rw [← hS']
  have e3 : S'.pending = S.pending := by rw [← hS']
  have e4 : S'.bodies = S.bodies ++ [⟨[], 0⟩] := by rw [← hS']
  have hb : ∀ i, i < S.bodies.length → S'.body i = S.body i := fun i hi => by unfold Drv.body; rw [e4, List.getD, List.getElem?_append_left hi]; rfl
  have hbn : S'.body S.bodies.length = ⟨[], 0⟩ := by unfold Drv.body; rw [e4, List.getD, List.getElem?_append_right (Nat.le_refl _)]; simp
  have h' : Holds S' P := h.bodies e1 e2 e3 (by rw [e4, List.length_append]; omega) fun s i hs hi => by
    have := h.whole s i hs hi
    rw [hb i this.1]; exact ⟨rfl, this.2⟩
  have hT : Tidy S'.now := by rw [e1]; exact ht
  have hap : ∀ s, dget (applyC S'.now [(tmpN, some S.bodies.length)]) s = if s = tmpN then some S.bodies.length else dget S'.now s := fun s => dget_stp hT tmpN (some S.bodies.length) s
  refine ⟨h'.change hT _ (fun _ _ _ hx => hx) (fun s o ho hs => ?_) (fun s hs => .inl ?_), ⟨?_, fun s hs hl => ?_, ?_⟩, ?_, ?_⟩
  · simp only [List.mem_singleton, Prod.mk.injEq] at ho; exact absurd ho.1 hs
  · rw [hap, if_neg hs]
  · rw [change_now, hap, if_pos rfl]
  · unfold Drv.leads at hl
    rw [change_now, hap, if_neg hs, change_kept, change_pending, e1, e2, e3] at hl
    rcases hl with e | e | ⟨d, hd, hm⟩
    · have := (h.whole s _ hs (.inl e)).1; omega
    · have := (h.whole s _ hs (.inr (.inl e))).1; omega
    · rcases List.mem_append.1 hd with hd | hd
      · have := (h.whole s _ hs (.inr (.inr ⟨d, hd, hm⟩))).1; omega
      · rw [List.mem_singleton.1 hd] at hm
        simp only [List.mem_singleton, Prod.mk.injEq] at hm; exact hs hm.1
  · rw [change_bodies, e4, List.length_append]; simp
  · rw [change_body, hbn]
  · intro s hs
    have e5 : S'.shows s = S.shows s := Holds.bodies_shows e1 (fun s i hs hi => by rw [hb i (h.whole s i hs hi).1]) s hs
    rw [← e5]
    unfold Drv.shows
    rw [change_now, hap, if_neg hs, change_cont]

/-- A body of the temporary file's turns. -/
theorem Holds.setBody {S : Drv} {P : Nm → Option (List UInt8) → Prop} (h : Holds S P) {i : Nat} (hf : Fresh S i) (B : Body) (u : Int) : Holds { S.setBody i B with used := u } P ∧ Fresh { S.setBody i B with used := u } i ∧ Drv.body { S.setBody i B with used := u } i = B ∧ ∀ s, s ≠ tmpN → Drv.shows { S.setBody i B with used := u } s = S.shows s := by
  have e0 : Drv.body { S.setBody i B with used := u } i = B := Drv.setBody_same S hf.lt B
  refine ⟨h.bodies rfl rfl rfl ?_ fun s j hs hj => ?_, ⟨hf.here, hf.no, ?_⟩, e0, Holds.bodies_shows rfl fun s j hs hj => ?_⟩
  · show _ ≤ (S.setBody i B).bodies.length
    rw [Drv.setBody_length]; exact Nat.le_refl _
  · have hne : j ≠ i := fun e => hf.no s hs (e ▸ hj)
    have e1 : Drv.body { S.setBody i B with used := u } j = S.body j := Drv.setBody_other S hne B
    rw [e1]; exact ⟨rfl, (h.whole s j hs hj).2⟩
  · show i < (S.setBody i B).bodies.length
    rw [Drv.setBody_length]; exact hf.lt
  · have hne : j ≠ i := fun e => hf.no s hs (e ▸ hj)
    have e1 : Drv.body { S.setBody i B with used := u } j = S.body j := Drv.setBody_other S hne B
    rw [e1]
theorem named_tmp : named tmpN = true := by decide
theorem find_fresh {S : Drv} {i : Nat} (hf : Fresh S i) : S.find tmpN = (some i, 0) := by
  unfold Drv.find
  rw [if_neg (by rw [named_tmp]; decide), hf.here]
theorem Holds.append {S T : Drv} {P : Nm → Option (List UInt8) → Prop} {x : Int} (h : Holds S P) {i : Nat} (hf : Fresh S i) (bs : List UInt8) (hc : S.append tmpN bs = (T, x)) :
    Holds T P ∧ Fresh T i ∧ (x = 0 → (T.body i).data = (S.body i).data ++ bs) ∧ ∀ s, s ≠ tmpN → T.shows s = S.shows s := by
  unfold Drv.append at hc
  rw [find_fresh hf] at hc
  simp only at hc
  split at hc
  · rename_i hb
    injection hc with hc _; subst hc
    exact ⟨h, hf, fun _ => by rw [hb, List.append_nil], fun _ _ => rfl⟩
  · split at hc
    · injection hc with hc hx; subst hc
      exact ⟨h, hf, fun e => (by rw [← hx] at e; cases e), fun _ _ => rfl⟩
    · injection hc with hc _; subst hc
      obtain ⟨a, b, c, d⟩ := h.setBody hf ⟨(S.body i).data ++ bs, (S.body i).safe⟩ (S.used + bs.length)
      exact ⟨a, b, fun _ => by rw [c], d⟩
theorem Holds.sync {S T : Drv} {P : Nm → Option (List UInt8) → Prop} {x : Int} (h : Holds S P) {i : Nat} (hf : Fresh S i) (hc : S.sync tmpN = (T, x)) :
    Holds T P ∧ Fresh T i ∧ x = 0 ∧ (T.body i).data = (S.body i).data ∧ (T.body i).safe = (T.body i).data.length ∧ ∀ s, s ≠ tmpN → T.shows s = S.shows s := by
  unfold Drv.sync at hc
  rw [find_fresh hf] at hc
  simp only at hc
  injection hc with hc hx
  obtain ⟨a, b, c, d⟩ := h.setBody hf ⟨(S.body i).data, S.len i⟩ S.used
  have e : ({ S.setBody i ⟨(S.body i).data, S.len i⟩ with used := S.used } : Drv) = S.setBody i ⟨(S.body i).data, S.len i⟩ := rfl
  rw [e, hc] at a b c d
  exact ⟨a, b, hx.symm, by rw [c], by rw [c]; rfl, d⟩
theorem Holds.rename {S T : Drv} {P : Nm → Option (List UInt8) → Prop} {x : Int} (h : Holds S P) (ht : Tidy S.now) {i : Nat} (hf : Fresh S i) (nm : Nm) (hn : named nm = true) (hnt : nm ≠ tmpN) (hw : (S.body i).safe = (S.body i).data.length) (hc : S.rename tmpN nm = (T, x)) :
    x = 0 ∧ Holds T (fun s y => P s y ∨ s = nm ∧ y = some (S.body i).data) ∧ T.shows nm = some (S.body i).data ∧ (∀ s, s ≠ tmpN → s ≠ nm → T.shows s = S.shows s) := by
  unfold Drv.rename at hc
  rw [if_neg (by rw [hn]; rintro ⟨_, h⟩; cases h), find_fresh hf] at hc
  simp only at hc
  rw [if_neg (Ne.symm hnt)] at hc
  injection hc with hc hx
  subst hc
  have t1 := (applyStp_tidy ht (tmpN, none)).1
  have hap : ∀ s, dget (applyC S.now [(tmpN, none), (nm, some i)]) s = if s = nm then some i else if s = tmpN then none else dget S.now s := fun s => by
    show dget (applyStp (applyStp S.now (tmpN, none)) (nm, some i)) s = _
    rw [dget_stp t1, dget_stp ht]
  refine ⟨hx.symm, h.change ht _ (fun _ _ _ hx => .inl hx) (fun s o ho hs => ?_) (fun s hs => ?_), ?_, fun s hs hsn => ?_⟩
  · simp only [List.mem_cons, Prod.mk.injEq, List.not_mem_nil, or_false] at ho
    rcases ho with ⟨e, _⟩ | ⟨rfl, rfl⟩
    · exact absurd e hs
    · exact ⟨.inr ⟨rfl, rfl⟩, fun j hj => by injection hj with hj; subst hj; exact ⟨hf.lt, hw⟩⟩
  · rw [hap]
    by_cases e : s = nm
    · subst e; rw [if_pos rfl]; exact .inr ⟨some i, by simp, rfl⟩
    · rw [if_neg e, if_neg hs]; exact .inl rfl
  · unfold Drv.shows
    rw [change_now, hap, if_pos rfl, change_cont]; rfl
  · unfold Drv.shows
    rw [change_now, hap, if_neg hsn, if_neg hs, change_cont]
theorem Holds.syncDir {S : Drv} {P : Nm → Option (List UInt8) → Prop} (h : Holds S P) : Holds S.syncDir (fun s y => P s y ∧ y = S.shows s) :=
  ⟨fun s hs => ⟨h.now s hs, rfl⟩, fun s hs => ⟨h.now s hs, rfl⟩, fun c hc => (by cases hc), fun s i hs hi => h.whole s i hs (by
    rcases hi with e | e | ⟨c, hc, _⟩
    · exact .inl e
    · exact .inl e
    · cases hc)⟩

/-- What a loss of power leaves. -/
theorem Holds.crashK {S : Drv} {P : Nm → Option (List UInt8) → Prop} {N : Nat} (h : Holds S P) (hI : S.Inv N) (dirs : List Bool) : ∀ k, k ≤ S.pending.length → ∀ s, s ≠ tmpN →
    P s (S.cont (dget (S.crashK dirs k) s)) ∧ ∀ i, dget (S.crashK dirs k) s = some i → S.leads s i
  | 0, _, s, hs => ⟨h.kept s hs, fun i e => .inr (.inl e)⟩
  | k + 1, hl, s, hs => by
    have ih := Holds.crashK h hI dirs k (by omega) s hs
    have hg : S.pending[k]? = some (S.pending.getD k []) := by rw [List.getElem?_eq_getElem (show k < S.pending.length by omega)]; simp [List.getD, show k < S.pending.length by omega]
    have hm : S.pending.getD k [] ∈ S.pending := List.mem_of_getElem? hg
    have hT := (crashK_facts hI dirs k (by omega)).2.1
    unfold Drv.crashK
    split
    · have key : ∀ (c : List Stp) (D : Dir), Tidy D → (∀ x ∈ c, x ∈ S.pending.getD k []) → (P s (S.cont (dget D s)) ∧ ∀ i, dget D s = some i → S.leads s i) → P s (S.cont (dget (applyC D c) s)) ∧ ∀ i, dget (applyC D c) s = some i → S.leads s i := by
        intro c
        induction c with
        | nil => intro D _ _ hd; exact hd
        | cons x c ihc =>
          intro D hD hx hd
          obtain ⟨a, o⟩ := x
          refine ihc (applyStp D (a, o)) (applyStp_tidy hD _).1 (fun y hy => hx y (List.mem_cons_of_mem _ hy)) ?_
          rw [dget_stp hD]
          by_cases e : s = a
          · subst e
            rw [if_pos rfl]
            have hmem := hx (s, o) List.mem_cons_self
            exact ⟨h.pend _ hm s o hmem hs, fun i ei => .inr (.inr ⟨_, hm, by rw [← ei]; exact hmem⟩)⟩
          · rw [if_neg e]; exact hd
      exact key _ _ hT (fun x hx => hx) ih
    · exact ih
theorem Holds.crash {S : Drv} {P : Nm → Option (List UInt8) → Prop} {N : Nat} (h : Holds S P) (hI : S.Inv N) (dirs : List Bool) (cuts : List Int) : Holds (S.crash dirs cuts) P := by
  have hK := h.crashK hI dirs S.pending.length (Nat.le_refl _)
  obtain ⟨f1, f2, f3, _⟩ := crashK_facts hI dirs S.pending.length (Nat.le_refl _)
  unfold Drv.crash
  generalize hD : S.crashK dirs S.pending.length = D at *
  generalize hM : (dnames D).length = M
  have hdg := dget_crashDir f3 f2 f1 M (by omega)
  have hbl : (S.crashAt D cuts M).bodies.length = M := by show ((List.range M).map _).length = M; simp
  have hbody : ∀ j, j < M → (S.crashAt D cuts M).body j = S.crashBody D cuts j := fun j hj => by
    unfold Drv.body Drv.crashAt
    simp only [List.getD, List.getElem?_map, List.getElem?_range hj, Option.map_some, Option.getD_some]
  -- a name but the temporary one, in the old directory and in the new one
  have main : ∀ s, s ≠ tmpN → (S.crashAt D cuts M).cont (dget (Drv.crashDir D M) s) = S.cont (dget D s) ∧ ∀ i, dget (Drv.crashDir D M) s = some i → i < M ∧ ((S.crashAt D cuts M).body i).safe = ((S.crashAt D cuts M).body i).data.length := by
    intro s hs
    cases hg : dget D s with
    | none =>
      have hno : s ∉ dnames D := fun hm => by
        obtain ⟨_, i, hi⟩ := f1 s (mem_dnames f3 f2 hm)
        rw [hg] at hi; cases hi
      have e := (hdg s).2 (fun hm => hno (List.mem_of_mem_take hm))
      rw [e]
      exact ⟨rfl, fun i hi => by cases hi⟩
    | some i =>
      have hm := has_dnamesK f3 f2 (has_of_dget hg)
      obtain ⟨j, hj, e⟩ := List.getElem_of_mem hm
      have hjs : (dnames D)[j]? = some s := by rw [List.getElem?_eq_getElem hj, e]
      have hjM : j < M := by omega
      have e1 := (hdg s).1 j hjM hjs
      have hw := (h.whole s i hs ((hK s hs).2 i hg)).2
      have hcb : S.crashBody D cuts j = ⟨(S.body i).data, (S.body i).data.length⟩ := by
        have ea : S.at_ D ((dnames D).getD j []) = S.body i := by
          unfold Drv.at_
          have : (dnames D).getD j [] = s := by rw [List.getD, hjs]; rfl
          rw [this, hg]; rfl
        have ec : S.cutN D cuts j = (S.body i).data.length := by
          unfold Drv.cutN; rw [ea, hw]; omega
        unfold Drv.crashBody
        rw [ea, ec, List.take_length]
      rw [e1]
      refine ⟨?_, fun k hk => ?_⟩
      · show some ((S.crashAt D cuts M).body j).data = some (S.body i).data
        rw [hbody j hjM, hcb]
      · injection hk with hk; subst hk
        exact ⟨hjM, by rw [hbody j hjM, hcb]⟩
  refine ⟨fun s hs => ?_, fun s hs => ?_, fun c hc => (by cases hc), fun s i hs hi => ?_⟩
  · show P s ((S.crashAt D cuts M).cont (dget (Drv.crashDir D M) s))
    rw [(main s hs).1]; exact (hK s hs).1
  · show P s ((S.crashAt D cuts M).cont (dget (Drv.crashDir D M) s))
    rw [(main s hs).1]; exact (hK s hs).1
  · rw [hbl]
    rcases hi with e | e | ⟨c, hc, _⟩
    · exact (main s hs).2 i e
    · exact (main s hs).2 i e
    · cases hc
end Go.Proofs.YtdmcjomcbhdcbaaGreat
namespace Go.Proofs.YtdmcjomcbhdcbaaGreat
open Go.RowKit Go.Maps

theorem wcall_cases {X Y : Wnd} {S T : Drv} {may : Bool} {f : Drv × Int} {x : Int} (h : wcall X S may f = (Y, T, x)) : Y = (X.struck may).1 ∧ ((T = f.1 ∧ x = f.2 ∧ (X.struck may).2.1 = 0) ∨ (T = S ∧ x ≠ 0 ∧ x = (X.struck may).2.1)) := by
  unfold wcall at h
  split at h
  · rename_i h0
    injection h with h1 h; injection h with h2 h3
    exact ⟨h1.symm, .inl ⟨h2.symm, h3.symm, h0⟩⟩
  · rename_i h0
    injection h with h1 h; injection h with h2 h3
    exact ⟨h1.symm, .inr ⟨h2.symm, by rw [← h3]; exact h0, h3.symm⟩⟩
theorem wappend_cases {X Y : Wnd} {S T : Drv} {s : Nm} {bs : List UInt8} {x : Int} (h : wappend X S s bs = (Y, T, x)) : Y = (X.struck true).1 ∧ ((T = (S.append s bs).1 ∧ x = (S.append s bs).2 ∧ (X.struck true).2.1 = 0) ∨ (x ≠ 0 ∧ x = (X.struck true).2.1 ∧ (T = S ∨ ∃ cs, T = (S.append s cs).1))) := by
  unfold wappend at h
  split at h
  · rename_i h0
    injection h with h1 h; injection h with h2 h3
    exact ⟨h1.symm, .inl ⟨h2.symm, h3.symm, h0⟩⟩
  · rename_i h0
    split at h
    · injection h with h1 h; injection h with h2 h3
      exact ⟨h1.symm, .inr ⟨by rw [← h3]; exact h0, h3.symm, .inr ⟨_, h2.symm⟩⟩⟩
    · injection h with h1 h; injection h with h2 h3
      exact ⟨h1.symm, .inr ⟨by rw [← h3]; exact h0, h3.symm, .inl h2.symm⟩⟩
theorem struck_up {X : Wnd} (hd : X.down = false) (ha : X.away = false) (may : Bool) : (X.struck may).1.calls = X.calls + 1 ∧ (X.struck may).1.away = false ∧ ((X.struck may).2.1 = 0 → (X.struck may).1.down = false) := by
  unfold Wnd.struck
  rw [if_neg (by rw [hd]; decide), if_neg (by rw [ha]; decide)]
  split
  · exact ⟨rfl, ha, fun h => by cases h⟩
  · exact ⟨rfl, ha, fun _ => hd⟩
theorem struck_off {X : Wnd} (h : ¬(X.down = false ∧ X.away = false)) (may : Bool) : (X.struck may).1 = X ∧ (X.struck may).2.1 ≠ 0 := by
  unfold Wnd.struck
  cases hd : X.down with
  | true => rw [if_pos rfl]; exact ⟨rfl, show (122 : Int) ≠ 0 by decide⟩
  | false =>
    rw [if_neg (by decide)]
    cases ha : X.away with
    | true => rw [if_pos rfl]; exact ⟨rfl, show (121 : Int) ≠ 0 by decide⟩
    | false => exact absurd ⟨hd, ha⟩ h

/-- The state ahead of the step k, where all went well till then. -/
structure AwSt (X0 : Wnd) (S0 : Drv) (P : Nm → Option (List UInt8) → Prop) (nm : Nm) (bs : List UInt8) (k : Nat) (X : Wnd) (S : Drv) : Prop where
  up : 0 < k → X.down = false ∧ X.away = false
  calls : X.calls = X0.calls + k
  holds : Holds S (fun s y => P s y ∨ 4 ≤ k ∧ s = nm ∧ y = some bs)
  others : ∀ s, s ≠ tmpN → s ≠ nm → S.shows s = S0.shows s
  low : k ≤ 3 → S.shows nm = S0.shows nm
  high : 4 ≤ k → S.shows nm = some bs
  fresh : 1 ≤ k → k ≤ 3 → ∃ i, Fresh S i ∧ (k = 1 → (S.body i).data = []) ∧ (2 ≤ k → (S.body i).data = bs) ∧ (k = 3 → (S.body i).safe = (S.body i).data.length)
/-- What a writing leaves. -/
structure AwEnd (X0 : Wnd) (S0 : Drv) (P : Nm → Option (List UInt8) → Prop) (nm : Nm) (bs : List UInt8) (Y : Wnd) (T : Drv) (x : Int) : Prop where
  holds : Holds T (fun s y => P s y ∨ s = nm ∧ y = some bs)
  others : ∀ s, s ≠ tmpN → s ≠ nm → T.shows s = S0.shows s
  cnt : ∃ n : Nat, n ≤ 5 ∧ Y.calls = X0.calls + n ∧ (n ≤ 4 → x ≠ 0 ∧ T.shows nm = S0.shows nm) ∧ (n = 5 → T.shows nm = some bs)
  ok : x = 0 → Holds T (fun s y => y = T.shows s) ∧ T.shows nm = some bs
  away : Y.away = X0.away

theorem awStep_law {X0 : Wnd} {S0 : Drv} {P : Nm → Option (List UInt8) → Prop} {nm : Nm} {bs : List UInt8} {k : Nat} {X Y : Wnd} {S T : Drv} {x : Int} (hn : named nm = true) (hnt : nm ≠ tmpN) (ht : Tidy S.now) (hk : k ≤ 4) (h : AwSt X0 S0 P nm bs k X S) (haw : X.away = X0.away)
    (hs : awStep nm bs (X, S) k = (Y, T, x)) : Y.away = X0.away ∧ (x = 0 → k ≤ 3 → AwSt X0 S0 P nm bs (k + 1) Y T) ∧ ((x ≠ 0 ∨ k = 4) → AwEnd X0 S0 P nm bs Y T x) := by
  -- what the wound says
  have hY : ∀ may, Y = (X.struck may).1 → (x ≠ 0 ∨ (X.struck may).2.1 = 0) → Y.away = X0.away ∧ ((X.struck may).2.1 = 0 → Y.down = false ∧ Y.away = false ∧ Y.calls = X0.calls + (k + 1 : Nat)) ∧ ∃ n : Nat, n ≤ k + 1 ∧ Y.calls = X0.calls + n ∧ (n ≤ k → x ≠ 0 ∧ k ≤ 3) := by
    intro may e hx
    subst e
    by_cases hu : X.down = false ∧ X.away = false
    · obtain ⟨a, b, c⟩ := struck_up hu.1 hu.2 may
      have hc : (X.struck may).1.calls = X0.calls + (k + 1 : Nat) := by rw [a, h.calls]; omega
      exact ⟨by rw [b, ← haw, hu.2], fun h0 => ⟨c h0, b, hc⟩, k + 1, Nat.le_refl _, hc, fun hle => by omega⟩
    · obtain ⟨a, b⟩ := struck_off hu may
      have hk0 : k = 0 := by
        rcases Nat.eq_zero_or_pos k with e | e
        · exact e
        · exact absurd (h.up e) hu
      rw [a]
      refine ⟨haw, fun h0 => absurd h0 b, k, by omega, h.calls, fun _ => ⟨?_, by omega⟩⟩
      rcases hx with hx | hx
      · exact hx
      · exact absurd hx b
  have hup : ∀ {U : Drv}, Holds U (fun s y => P s y ∨ 4 ≤ k ∧ s = nm ∧ y = some bs) → Holds U (fun s y => P s y ∨ s = nm ∧ y = some bs) := fun hu => hu.mono fun s y _ hy => by
    rcases hy with hy | ⟨_, hy⟩
    · exact .inl hy
    · exact .inr hy
  -- a refusal that leaves what all names show
  have bad : ∀ may, Y = (X.struck may).1 → x ≠ 0 → Holds T (fun s y => P s y ∨ 4 ≤ k ∧ s = nm ∧ y = some bs) → (∀ s, s ≠ tmpN → T.shows s = S.shows s) → k ≤ 3 → AwEnd X0 S0 P nm bs Y T x := by
    intro may e hx hH hsh hk3
    obtain ⟨a, _, n, hn1, hn2, _⟩ := hY may e (.inl hx)
    exact ⟨hup hH, fun s h1 h2 => (hsh s h1).trans (h.others s h1 h2), ⟨n, by omega, hn2, fun _ => ⟨hx, (hsh nm hnt).trans (h.low hk3)⟩, fun e => by omega⟩, fun e => absurd e hx, a⟩
  rcases (show k = 0 ∨ k = 1 ∨ k = 2 ∨ k = 3 ∨ k = 4 by omega) with rfl | rfl | rfl | rfl | rfl
  · obtain ⟨e, hc⟩ := wcall_cases (show wcall X S true (S.create tmpN) = (Y, T, x) from hs)
    by_cases hx : x = 0
    · rcases hc with ⟨e1, e2, h0⟩ | ⟨_, hx2, _⟩
      · obtain ⟨a, b, _⟩ := hY true e (.inr h0)
        obtain ⟨b1, b2, b3⟩ := b h0
        obtain ⟨c1, c2, c3, c4⟩ := h.holds.create ht (T := T) (by rw [Prod.ext_iff]; exact ⟨e1.symm, by rw [← e2, hx]⟩)
        exact ⟨a, fun _ _ => ⟨fun _ => ⟨b1, b2⟩, b3, c1.mono fun s y _ hy => hy.imp id fun ⟨h1, h2⟩ => absurd h1 (by omega), fun s h1 h2 => (c4 s h1).trans (h.others s h1 h2), fun _ => (c4 nm hnt).trans (h.low (by omega)), fun h1 => absurd h1 (by omega), fun _ _ => ⟨_, c2, fun _ => c3, fun h1 => absurd h1 (by omega), fun h1 => absurd h1 (by omega)⟩⟩, fun h1 => by rcases h1 with h1 | h1; exact absurd hx h1; omega⟩
      · exact absurd hx hx2
    · have hT : T = S := by
        rcases hc with ⟨e1, e2, _⟩ | ⟨e1, _⟩
        · exact create_no (s := tmpN) (S := S) (x := x) (by rw [Prod.ext_iff]; exact ⟨e1.symm, e2.symm⟩) hx
        · exact e1
      subst hT
      exact ⟨(hY true e (.inl hx)).1, fun e' => absurd e' hx, fun _ => bad true e hx h.holds (fun _ _ => rfl) (by omega)⟩
  · obtain ⟨i, hf, hd, _⟩ := h.fresh (by omega) (by omega)
    obtain ⟨e, hc⟩ := wappend_cases (show wappend X S tmpN bs = (Y, T, x) from hs)
    by_cases hx : x = 0
    · rcases hc with ⟨e1, e2, h0⟩ | ⟨hx2, _⟩
      · obtain ⟨a, b, _⟩ := hY true e (.inr h0)
        obtain ⟨b1, b2, b3⟩ := b h0
        obtain ⟨c1, c2, c3, c4⟩ := h.holds.append hf bs (T := T) (x := x) (by rw [Prod.ext_iff]; exact ⟨e1.symm, e2.symm⟩)
        exact ⟨a, fun _ _ => ⟨fun _ => ⟨b1, b2⟩, b3, c1.mono fun s y _ hy => hy.imp id fun ⟨h1, h2⟩ => absurd h1 (by omega), fun s h1 h2 => (c4 s h1).trans (h.others s h1 h2), fun _ => (c4 nm hnt).trans (h.low (by omega)), fun h1 => absurd h1 (by omega), fun _ _ => ⟨_, c2, fun h1 => absurd h1 (by omega), fun _ => by rw [c3 hx, hd rfl, List.nil_append], fun h1 => absurd h1 (by omega)⟩⟩, fun h1 => by rcases h1 with h1 | h1; exact absurd hx h1; omega⟩
      · exact absurd hx hx2
    · have hT : Holds T (fun s y => P s y ∨ 4 ≤ 1 ∧ s = nm ∧ y = some bs) ∧ ∀ s, s ≠ tmpN → T.shows s = S.shows s := by
        have ap : ∀ cs, T = (S.append tmpN cs).1 → Holds T (fun s y => P s y ∨ 4 ≤ 1 ∧ s = nm ∧ y = some bs) ∧ ∀ s, s ≠ tmpN → T.shows s = S.shows s := fun cs e1 => by
          obtain ⟨c1, _, _, c4⟩ := h.holds.append hf cs (T := T) (x := (S.append tmpN cs).2) (by rw [e1])
          exact ⟨c1, c4⟩
        rcases hc with ⟨e1, _, _⟩ | ⟨_, _, e1 | ⟨cs, e1⟩⟩
        · exact ap bs e1
        · rw [e1]; exact ⟨h.holds, fun _ _ => rfl⟩
        · exact ap cs e1
      exact ⟨(hY true e (.inl hx)).1, fun e' => absurd e' hx, fun _ => bad true e hx hT.1 hT.2 (by omega)⟩
  · obtain ⟨i, hf, _, hd, _⟩ := h.fresh (by omega) (by omega)
    obtain ⟨e, hc⟩ := wcall_cases (show wcall X S false (S.sync tmpN) = (Y, T, x) from hs)
    rcases hc with ⟨e1, e2, h0⟩ | ⟨e1, hx2, _⟩
    · obtain ⟨c1, c2, c0, c3, c4, c5⟩ := h.holds.sync hf (T := T) (x := x) (by rw [Prod.ext_iff]; exact ⟨e1.symm, e2.symm⟩)
      obtain ⟨a, b, _⟩ := hY false e (.inr h0)
      obtain ⟨b1, b2, b3⟩ := b h0
      exact ⟨a, fun _ _ => ⟨fun _ => ⟨b1, b2⟩, b3, c1.mono fun s y _ hy => hy.imp id fun ⟨h1, h2⟩ => absurd h1 (by omega), fun s h1 h2 => (c5 s h1).trans (h.others s h1 h2), fun _ => (c5 nm hnt).trans (h.low (by omega)), fun h1 => absurd h1 (by omega), fun _ _ => ⟨_, c2, fun h1 => absurd h1 (by omega), fun _ => by rw [c3, hd (by omega)], fun _ => c4⟩⟩, fun h1 => by rcases h1 with h1 | h1; exact absurd c0 h1; omega⟩
    · subst e1
      exact ⟨(hY false e (.inl hx2)).1, fun e' => absurd e' hx2, fun _ => bad false e hx2 h.holds (fun _ _ => rfl) (by omega)⟩
  · obtain ⟨i, hf, _, hd, hw⟩ := h.fresh (by omega) (by omega)
    obtain ⟨e, hc⟩ := wcall_cases (show wcall X S false (S.rename tmpN nm) = (Y, T, x) from hs)
    rcases hc with ⟨e1, e2, h0⟩ | ⟨e1, hx2, _⟩
    · obtain ⟨c0, c1, c2, c3⟩ := h.holds.rename ht hf nm hn hnt (hw rfl) (T := T) (x := x) (by rw [Prod.ext_iff]; exact ⟨e1.symm, e2.symm⟩)
      obtain ⟨a, b, _⟩ := hY false e (.inr h0)
      obtain ⟨b1, b2, b3⟩ := b h0
      rw [hd (by omega)] at c1 c2
      exact ⟨a, fun _ _ => ⟨fun _ => ⟨b1, b2⟩, b3, c1.mono fun s y _ hy => by
        rcases hy with (hy | hy) | hy
        · exact .inl hy
        · exact absurd hy.1 (by omega)
        · exact .inr ⟨by omega, hy⟩, fun s h1 h2 => (c3 s h1 h2).trans (h.others s h1 h2), fun h1 => absurd h1 (by omega), fun _ => c2, fun _ h1 => absurd h1 (by omega)⟩, fun h1 => by rcases h1 with h1 | h1; exact absurd c0 h1; omega⟩
    · subst e1
      exact ⟨(hY false e (.inl hx2)).1, fun e' => absurd e' hx2, fun _ => bad false e hx2 h.holds (fun _ _ => rfl) (by omega)⟩
  · obtain ⟨e, hc⟩ := wcall_cases (show wcall X S false (S.syncDir, 0) = (Y, T, x) from hs)
    have hyy : x ≠ 0 ∨ (X.struck false).2.1 = 0 := by
      rcases hc with ⟨_, _, h0⟩ | ⟨_, hx2, _⟩
      · exact .inr h0
      · exact .inl hx2
    obtain ⟨a, _, n, hn1, hn2, hn3⟩ := hY false e hyy
    have hn5 : n = 5 := by
      rcases Nat.lt_or_ge n 5 with h1 | h1
      · have := (hn3 (by omega)).2; omega
      · omega
    subst hn5
    refine ⟨a, fun _ h1 => absurd h1 (by omega), fun _ => ?_⟩
    rcases hc with ⟨e1, e2, h0⟩ | ⟨e1, hx2, _⟩
    · have e1' : T = S.syncDir := e1
      subst e1'
      have hH := h.holds.syncDir
      have hsh : ∀ s, S.syncDir.shows s = S.shows s := fun s => rfl
      exact ⟨hup (hH.mono fun s y _ hy => hy.1), fun s h1 h2 => h.others s h1 h2, ⟨5, Nat.le_refl _, hn2, fun h1 => absurd h1 (by omega), fun _ => h.high (by omega)⟩, fun _ => ⟨hH.mono fun s y _ hy => hy.2, h.high (by omega)⟩, a⟩
    · subst e1
      exact ⟨hup h.holds, h.others, ⟨5, Nat.le_refl _, hn2, fun h1 => absurd h1 (by omega), fun _ => h.high (by omega)⟩, fun e' => absurd e' hx2, a⟩

theorem awFrom_law {X0 : Wnd} {S0 : Drv} {P : Nm → Option (List UInt8) → Prop} {nm : Nm} {bs : List UInt8} (hn : named nm = true) (hnt : nm ≠ tmpN) {r : Nat} : ∀ (n k : Nat) (X : Wnd) (S : Drv) (c N : Nat), n + k = 5 → 0 < n → Kept X S c N r → (N + n) ≤ 1073741824 → X.away = X0.away → AwSt X0 S0 P nm bs k X S →
    AwEnd X0 S0 P nm bs (awFrom nm bs n k (X, S)).1 (awFrom nm bs n k (X, S)).2.1 (awFrom nm bs n k (X, S)).2.2
  | 0, _, _, _, _, _, _, h0, _, _, _, _ => absurd h0 (by omega)
  | n + 1, k, X, S, c, N, hnk, _, hK, hr, haw, h => by
    have h1 : (N + 1) ≤ 1073741824 := by omega
    have hks := awStep_kept (Z := (X, S)) hK nm bs k h1
    obtain ⟨Y, T, x, hy⟩ : ∃ Y T x, awStep nm bs (X, S) k = (Y, T, x) := ⟨_, _, _, rfl⟩
    obtain ⟨a, b, d⟩ := awStep_law hn hnt hK.drv.tnow (by omega) h haw hy
    rw [hy] at hks
    unfold awFrom
    rw [hy]
    by_cases hx : x = 0
    · rw [if_pos hx]
      by_cases hk4 : k = 4
      · have hn0 : n = 0 := by omega
        subst hn0
        have := d (.inr hk4)
        rw [hx] at this
        exact this
      · exact awFrom_law hn hnt n (k + 1) Y T (c + 1) (N + 1) (by omega) (by omega) hks (by omega) a (b hx (by omega))
    · rw [if_neg hx]
      exact d (.inl hx)
/-- What a writing of a file whole leaves, whatever strikes. -/
theorem awrite_law {X Y : Wnd} {S T : Drv} {P : Nm → Option (List UInt8) → Prop} {nm : Nm} {bs : List UInt8} {x : Int} {c N r : Nat} (hn : named nm = true) (hnt : nm ≠ tmpN) (hK : Kept X S c N r) (hr : (N + 5) ≤ 1073741824) (h : Holds S P) (hy : awrite X S nm bs = (Y, T, x)) :
    AwEnd X S P nm bs Y T x := by
  have := awFrom_law (P := P) (bs := bs) hn hnt 5 0 X S c N rfl (by omega) hK (by omega) rfl ⟨fun h => absurd h (by omega), by simp, h.mono fun s y _ hy => .inl hy, fun _ _ _ => rfl, fun _ => rfl, fun h => absurd h (by omega), fun h => absurd h (by omega)⟩
  have e : awFrom nm bs 5 0 (X, S) = (Y, T, x) := hy
  rw [e] at this
  exact this
end Go.Proofs.YtdmcjomcbhdcbaaGreat

/- atomic.look; a refused writing.; The place of a name among files.; The files of a drive ahead of a writing and behind it. -/
import Derived.Test.YtdmcjomcbhdcbaaGreatM20
import Derived.Deep.DeepCutAuto
import Derived.BigQuiet
namespace Go.Proofs.YtdmcjomcbhdcbaaGreat
open Go.RowKit Go.Maps

theorem look_nil (s : ByteArray) (w : World) : Calls Tryz.prog 38 #[.nilIface, .string s] w fun e w' => e = .returned (.int .i64 1) ∧ w = w' := by
  go_enter Tryz.func38, Tryz.ntmps38
  go_wp2
  go_ret
  exact ⟨rfl, rfl⟩
/-- What is told ahead of any call. -/
def lookE (s : List UInt8) : Int := if named s = true ∧ s ≠ [116] then 0 else 91
theorem named_iff (s : List UInt8) : named s = true ↔ 1 ≤ s.length ∧ s.length ≤ 1024 := by unfold named; rw [decide_eq_true_eq]
theorem look_any (q : Addr) (s : List UInt8) (w : World) (hs : s.length ≤ maxLen) : Calls Tryz.prog 38 #[.iface 40 (.pointer (some q)), .string ⟨s.toArray⟩] w fun e w' => e = .returned (.int .i64 (lookE s)) ∧ w = w' := by
  unfold maxLen at hs
  by_cases h0 : s = []
  · subst h0
    have h : lookE [] = 91 := by decide
    rw [h]
    go_enter Tryz.func38, Tryz.ntmps38
    go_wp2
    go_ret
    exact ⟨rfl, rfl⟩
  have hpos : 1 ≤ s.length := by cases s with
    | nil => exact absurd rfl h0
    | cons a l => simp only [List.length_cons]; omega
  have hz : s.isEmpty = false := by cases s with
    | nil => exact absurd rfl h0
    | cons a l => rfl
  by_cases h1 : s.length ≤ 1024
  · by_cases ht : s = [116]
    · subst ht
      have h : lookE [116] = 91 := by decide
      rw [h]
      go_enter Tryz.func38, Tryz.ntmps38
      go_wp2
      go_ret
      exact ⟨rfl, rfl⟩
    · have h : lookE s = 0 := if_pos ⟨(named_iff s).2 ⟨hpos, h1⟩, ht⟩
      rw [h]
      have ht' : (s == [116]) = false := by rw [beq_eq_false_iff_ne]; exact ht
      have hl : decide ((1024 : Int) < (s.length : Int)) = false := by rw [decide_eq_false_iff_not]; omega
      clear h ht h1 hpos h0
      go_enter Tryz.func38, Tryz.ntmps38
      go_wp2
      go_ret
      exact ⟨rfl, rfl⟩
  · have h : lookE s = 91 := if_neg fun hh => h1 ((named_iff s).1 hh.1).2
    rw [h]
    have hl : decide ((1024 : Int) < (s.length : Int)) = true := by rw [decide_eq_true_eq]; omega
    clear h h1 hpos h0
    go_enter Tryz.func38, Tryz.ntmps38
    go_wp2
    go_ret
    exact ⟨rfl, rfl⟩
set_option maxRecDepth 100000 in
set_option maxHeartbeats 8000000 in
theorem write_nil (s : ByteArray) (A : Option Addr) (n c : Nat) (w : World) : Calls Tryz.prog 10 #[.nilIface, .string s, .slice A n c] w fun e w' => e = .returned (.int .i64 1) ∧ Below w.heap.size w w' := by
  have HL := Lib.hid (look_nil s)
  go_enter Tryz.func10, Tryz.ntmps10
  go_wp2_with (go_at_call 38; refine (HL.out _).mono ?_; rintro e w' ⟨rfl, rfl⟩)
  go_ret
  exact ⟨rfl, (((Below.refl _ _).alloc (Nat.le_refl _) _).alloc (by simp) _).alloc (by simp; omega) _⟩
set_option maxRecDepth 100000 in
set_option maxHeartbeats 8000000 in
theorem write_bad (q : Addr) (s : List UInt8) (hs : s.length ≤ maxLen) (hx : lookE s ≠ 0) (A : Option Addr) (n c : Nat) (w : World) : Calls Tryz.prog 10 #[.iface 40 (.pointer (some q)), .string ⟨s.toArray⟩, .slice A n c] w fun e w' => e = .returned (.int .i64 91) ∧ Below w.heap.size w w' := by
  have h : lookE s = 91 := by
    unfold lookE at hx ⊢
    split at hx
    · exact absurd rfl hx
    · rename_i h; exact if_neg h
  have HL : Hid (∀ W, Calls Tryz.prog 38 #[.iface 40 (.pointer (some q)), .string ⟨s.toArray⟩] W fun e w' => e = .returned (.int .i64 91) ∧ W = w') := Lib.hid fun W => by
    have := look_any q s W hs
    rw [h] at this
    exact this
  clear hx h hs
  go_enter Tryz.func10, Tryz.ntmps10
  go_wp2_with (go_at_call 38; refine (HL.out _).mono ?_; rintro e w' ⟨rfl, rfl⟩)
  go_ret
  exact ⟨rfl, (((Below.refl _ _).alloc (Nat.le_refl _) _).alloc (by simp) _).alloc (by simp; omega) _⟩
end Go.Proofs.YtdmcjomcbhdcbaaGreat
namespace Go.Proofs.YtdmcjomcbhdcbaaGreat
open Go.RowKit Go.Maps

/-- The place of a name among files; -1: it is not there. -/
def atI : List File → List UInt8 → Int
  | [], _ => -1
  | f :: r, s => if f.1 = s then 0 else if atI r s < 0 then -1 else atI r s + 1
theorem atI_hit {fs : List File} {k : Nat} {f : File} {s : List UInt8} (hk : fs[k]? = some f) (hs : f.1 = s) (hno : ∀ (j : Nat) (g : File), j < k → fs[j]? = some g → g.1 ≠ s) : atI fs s = k := by
  induction fs generalizing k with
  | nil => simp at hk
  | cons a r ih =>
    cases k with
    | zero => simp at hk; subst hk; unfold atI; rw [if_pos hs]; rfl
    | succ k =>
      have h0 : a.1 ≠ s := hno 0 a (by omega) rfl
      have := ih (k := k) (by simpa using hk) (fun j g hj hg => hno (j + 1) g (by omega) (by simpa using hg))
      unfold atI
      rw [if_neg h0, this, if_neg (by omega)]
      omega
theorem atI_miss {fs : List File} {s : List UInt8} (hno : ∀ (j : Nat) (g : File), fs[j]? = some g → g.1 ≠ s) : atI fs s = -1 := by
  induction fs with
  | nil => rfl
  | cons a r ih =>
    have h0 : a.1 ≠ s := hno 0 a rfl
    have := ih (fun j g hg => hno (j + 1) g (by simpa using hg))
    unfold atI
    rw [if_neg h0, this]
    rfl
set_option maxRecDepth 100000 in
set_option maxHeartbeats 8000000 in
theorem at_any (fs : List File) (vals : List Value) (A : Option Addr) (c n : Nat) (hn : n = fs.length) (s : List UInt8) (w : World) (hin : FilesIn w A fs vals) (hsp : ∀ ad, A = some ad → ad.spot = none) (hfs : n ≤ 1099511627776) :
    Calls Tryz.prog 27 #[.slice A n c, .string ⟨s.toArray⟩] w fun e w' => e = .returned (.int .i64 (atI fs s)) ∧ w = w' := by
  have HIN := Lib.hid hin
  have HSP := Lib.hid hsp
  have HM := Lib.hid hn
  clear hin hsp hn
  go_enter Tryz.func27, Tryz.ntmps27
  go_wp2_with fail
  go_loopw [5] (fun s5 wr => ∃ k : Nat, k ≤ n ∧ s5 = .int .i64 k ∧ wr = w ∧ Hid (∀ (j : Nat) (g : File), j < k → fs[j]? = some g → g.1 ≠ s)) (fun s _ => n - (intOf s).toNat)
  case atStart => exact ⟨0, Nat.zero_le _, rfl, rfl, Lib.hid fun j g hj => absurd hj (by omega)⟩
  case round =>
    obtain ⟨k, hk, rfl, rfl, HNO⟩ := hrel
    by_cases hlt : k < n
    · obtain ⟨f, hf⟩ : ∃ f, fs[k]? = some f := ⟨_, List.getElem?_eq_getElem (by rw [← HM.out]; exact hlt)⟩
      obtain ⟨u, hu⟩ : ∃ u, vals[k]? = some u := ⟨_, List.getElem?_eq_getElem (by rw [HIN.out.len, ← HM.out]; exact hlt)⟩
      obtain ⟨ad, hA, hbl, hcl⟩ := HIN.out.row.2 (by rw [← HM.out]; omega)
      obtain ⟨gA, oA, sA⟩ := ad
      have hsA : sA = none := HSP.out _ hA
      subst hsA
      subst hA
      have x0 : wr.cell? ⟨gA, oA + k * 2, none⟩ = some (.string ⟨f.1.toArray⟩) := by
        have h := hcl _ _ (fileCells_get fs vals hf hu).1
        rw [add_plain] at h
        exact h
      have HF := Lib.hid hf
      obtain ⟨nm, bs⟩ := f
      clear hu hf hcl
      by_cases he : nm = s
      · have HE := Lib.hid he
        have he' : (nm == s) = true := by rw [beq_iff_eq]; exact he
        clear he
        go_wp2_with fail
        go_ret
        refine ⟨?_, rfl⟩
        rw [atI_hit HF.out HE.out HNO.out]; rfl
      · have HE := Lib.hid he
        have he' : (nm == s) = false := by rw [beq_eq_false_iff_ne]; exact he
        clear he
        go_wp2_with fail
        go_roundw
        case rel =>
          refine ⟨k + 1, by omega, by go_num, trivial, Lib.hid fun j g hj hg => ?_⟩
          rcases Nat.lt_or_ge j k with h1 | h1
          · exact HNO.out j g h1 hg
          · obtain rfl : j = k := by omega
            have h2 := HF.out
            rw [hg] at h2
            injection h2 with h2
            rw [h2]
            exact HE.out
        case measure => first | (simp [intOf]; done) | (simp [intOf]; omega)
    · have hkn : k = n := by omega
      subst hkn
      go_wp2_with fail
      go_ret
      refine ⟨?_, rfl⟩
      rw [atI_miss fun j g hg => HNO.out j g (by have h1 := (List.getElem?_eq_some_iff.1 hg).1; have h2 := HM.out; omega) hg]; rfl
end Go.Proofs.YtdmcjomcbhdcbaaGreat
namespace Go.Proofs.YtdmcjomcbhdcbaaGreat
open Go.RowKit Go.Maps

/-- What a name shows among files. -/
def fileOf : List File → List UInt8 → Option (List UInt8)
  | [], _ => none
  | f :: r, s => if f.1 = s then some f.2 else fileOf r s
theorem atI_cases (fs : List File) (s : List UInt8) : (atI fs s = -1 ∧ fileOf fs s = none) ∨ ∃ (k : Nat) (f : File), atI fs s = (k : Int) ∧ fs[k]? = some f ∧ f.1 = s ∧ fileOf fs s = some f.2 := by
  induction fs with
  | nil => exact .inl ⟨rfl, rfl⟩
  | cons a r ih =>
    unfold atI fileOf
    by_cases h : a.1 = s
    · rw [if_pos h, if_pos h]
      exact .inr ⟨0, a, rfl, rfl, h, rfl⟩
    · rw [if_neg h, if_neg h]
      rcases ih with ⟨h1, h2⟩ | ⟨k, f, h1, h2, h3, h4⟩
      · rw [h1]; exact .inl ⟨rfl, h2⟩
      · rw [h1, if_neg (by omega)]
        exact .inr ⟨k + 1, f, by omega, by simpa using h2, h3, h4⟩
theorem fileOf_mem {fs : List File} {k : Nat} {f : File} (h : fs[k]? = some f) : fileOf fs f.1 ≠ none := by
  induction fs generalizing k with
  | nil => simp at h
  | cons a r ih =>
    unfold fileOf
    split
    · exact fun e => by cases e
    · rename_i h0
      cases k with
      | zero => simp at h; subst h; exact absurd rfl h0
      | succ k => exact ih (by simpa using h)
theorem FilesAt.drewN {w : World} {base : Nat} {v : Value} {fs : List File} (h : FilesAt w base v fs) (n : Nat) : FilesAt (w.drewN n) base v fs := h.below (below_drewN (Below.refl _ _) n)
theorem at_at (fs : List File) (base : Nat) (A : Option Addr) (c n : Nat) (hn : n = fs.length) (s : List UInt8) (w : World) (h : FilesAt w base (.slice A n c) fs) (hfs : n ≤ 1099511627776) :
    Calls Tryz.prog 27 #[.slice A n c, .string ⟨s.toArray⟩] w fun e w' => e = .returned (.int .i64 (atI fs s)) ∧ w = w' := by
  obtain ⟨A', c', vals, e, hin, hsp⟩ := h.filesIn
  injection e with e1 e2 e3
  subst e1
  exact at_any fs vals A c n hn s w hin hsp hfs

set_option maxRecDepth 100000 in
set_option maxHeartbeats 8000000 in
theorem turned_any (os ns : List File) (bo bn : Nat) (A B : Option Addr) (no nn ca cb : Nat) (hno : no = os.length) (hnn : nn = ns.length) (w : World) (ho : FilesAt w bo (.slice A no ca) os) (hn : FilesAt w bn (.slice B nn cb) ns) (lo : no ≤ 1099511627776) (ln : nn ≤ 1099511627776)
    (nm : List UInt8) (D : Option Addr) (dn dc : Nat) (bs : List UInt8) (hdn : dn = bs.length) (hD : Reads w w.heap.size 1 D dn (bs.map B8)) (x : Int)
    (hown : ∀ (k : Nat) (f : File), ns[k]? = some f → fileOf ns f.1 = some f.2)
    (H1 : nm = [116] ∨ fileOf ns nm = some bs ∨ (x ≠ 0 ∧ fileOf ns nm = fileOf os nm)) (H2 : ∀ s, s ≠ [116] → s ≠ nm → fileOf ns s = fileOf os s) :
    Calls Tryz.prog 15 #[.slice A no ca, .slice B nn cb, .string ⟨nm.toArray⟩, .slice D dn dc, .int .i64 x] w fun e w' => e = .returned (.bool true) ∧ ∃ n, w' = w.drewN n := by
  have HO := Lib.hid ho
  have HN := Lib.hid hn
  have HNO := Lib.hid hno
  have HNN := Lib.hid hnn
  have HOW := Lib.hid hown
  have HH1 := Lib.hid H1
  have HH2 := Lib.hid H2
  have HDC : Hid (∀ m, (convert 26 9 (.slice D dn dc)).run Tryz.prog (w.drewN m) = .ok (.string ⟨bs.toArray⟩) (w.drewN m)) := Lib.hid fun m => by subst hdn; exact conv_any _ _ D bs dc (hD.drewN m)
  have HATO : Hid (∀ m W (s : List UInt8), W = w.drewN m → Calls Tryz.prog 27 #[.slice A no ca, .string ⟨s.toArray⟩] W fun e w' => e = .returned (.int .i64 (atI os s)) ∧ W = w') := Lib.hid fun m W s hW => by subst hW; exact at_at os bo A ca no hno s _ (ho.drewN m) lo
  have HATN : Hid (∀ m W (s : List UInt8), W = w.drewN m → Calls Tryz.prog 27 #[.slice B nn cb, .string ⟨s.toArray⟩] W fun e w' => e = .returned (.int .i64 (atI ns s)) ∧ W = w') := Lib.hid fun m W s hW => by subst hW; exact at_at ns bn B cb nn hnn s _ (hn.drewN m) ln
  clear ho hn hno hnn hown H1 H2 hdn hD
  go_enter Tryz.func15, Tryz.ntmps15
  go_upto_region 3 with (first
    | (go_at_call 27; have j4 := HATN.out 0 w nm rfl; with_reducible refine j4.mono ?_; clear j4; rintro e w' ⟨rfl, rfl⟩)
    | (go_at_call 27; have j4 := HATO.out 0 w nm rfl; with_reducible refine j4.mono ?_; clear j4; rintro e w' ⟨rfl, rfl⟩)
    | fail)
  obtain ⟨fr, hfr⟩ : ∃ fr, fr = decide (fileOf ns nm = some bs) := ⟨_, rfl⟩
  obtain ⟨kp, hkp⟩ : ∃ kp, kp = decide (fileOf ns nm = fileOf os nm) := ⟨_, rfl⟩
  have HFR := Lib.hid hfr
  have HKP := Lib.hid hkp
  clear hfr hkp
  obtain ⟨i, hi⟩ : ∃ i, i = atI ns nm := ⟨_, rfl⟩
  obtain ⟨j, hj⟩ : ∃ j, j = atI os nm := ⟨_, rfl⟩
  rw [← hi, ← hj]
  have HI := Lib.hid hi
  have HJ := Lib.hid hj
  clear hi hj
  go_cut [13] (fun s13 wx => s13 = .bool fr ∧ Hid (∃ n, wx = w.drewN n))
  case first =>
    have hdc := HDC.out
    rcases atI_cases ns nm with ⟨h1, h2⟩ | ⟨k, f, h1, h2, h3, h4⟩
    · have hi := HI.out.trans h1
      subst hi
      have hf : fr = false := by rw [HFR.out, h2]; rfl
      subst hf
      clear h1 h2
      go_quiet (fail)
      go_wp2_with fail
      go_meet
      exact ⟨rfl, Lib.hid ⟨_, rfl⟩⟩
    · have hi := HI.out.trans h1
      subst hi
      have hlt : k < nn := by rw [HNN.out]; exact (List.getElem?_eq_some_iff.1 h2).1
      obtain ⟨g, xb, db, rfl, y0, y1, _, hrb⟩ := HN.out.at_ HNN.out h2
      have hvb : ∀ m, (convert 26 9 (.slice xb f.2.length db)).run Tryz.prog (w.drewN m) = .ok (.string ⟨f.2.toArray⟩) (w.drewN m) := fun m => conv_any _ w.heap.size xb f.2 db ((Reads.of_own hrb).drewN m)
      have hf : fr = decide (f.2 = bs) := by rw [HFR.out, h4]; simp
      obtain ⟨f1, f2⟩ := f
      simp only [strV] at y0 y1 hvb hf
      generalize f2.length = lf at y1 hvb
      clear h1 h2 h3 h4 hrb
      by_cases he : f2 = bs
      · rw [decide_eq_true he] at hf
        subst hf
        have e1 : (f2 == bs) = true := by rw [beq_iff_eq]; exact he
        clear he
        go_quiet (fail)
        go_wp2_with fail
        go_meet
        exact ⟨rfl, Lib.hid ⟨_, rfl⟩⟩
      · rw [decide_eq_false he] at hf
        subst hf
        have e1 : (f2 == bs) = false := by rw [beq_eq_false_iff_ne]; exact he
        clear he
        go_quiet (fail)
        go_wp2_with fail
        go_meet
        exact ⟨rfl, Lib.hid ⟨_, rfl⟩⟩
  case rest =>
  obtain ⟨rfl, hw1⟩ := hcut
  have HWC := hw1
  have HOC : Hid (FilesAt wc bo (.slice A no ca) os) := Lib.hid (by obtain ⟨q, e⟩ := HWC.out; rw [e]; exact HO.out.drewN q)
  have HNC : Hid (FilesAt wc bn (.slice B nn cb) ns) := Lib.hid (by obtain ⟨q, e⟩ := HWC.out; rw [e]; exact HN.out.drewN q)
  have HWD : Hid (∀ q, ∃ n, wc.drewN q = w.drewN n) := Lib.hid fun q => by obtain ⟨r, e⟩ := HWC.out; exact ⟨r + q, by rw [e, World.drewN_drewN]⟩
  clear hw1
  go_upto_region 4 with fail
  go_cut [14] (fun s14 wx => s14 = .bool kp ∧ Hid (∃ n, wx = w.drewN n))
  case first =>
    rcases atI_cases ns nm with ⟨h1, h2⟩ | ⟨k, f, h1, h2, h3, h4⟩
    · have hi := HI.out.trans h1
      subst hi
      rcases atI_cases os nm with ⟨h5, h6⟩ | ⟨k2, f2, h5, h6, h7, h8⟩
      · have hj := HJ.out.trans h5
        subst hj
        have hf : kp = true := by rw [HKP.out, h2, h6]; rfl
        subst hf
        clear h1 h2 h5 h6
        go_big_quiet (fail)
        go_wp2_with fail
        go_meet
        exact ⟨rfl, Lib.hid (HWD.out _)⟩
      · have hj := HJ.out.trans h5
        subst hj
        have hf : kp = false := by rw [HKP.out, h2, h8]; rfl
        subst hf
        have t1k2 : decide ((k2 : Int) < 0) = false := by rw [decide_eq_false_iff_not]; omega
        have t2k2 : decide ((0 : Int) ≤ (k2 : Int)) = true := by rw [decide_eq_true_eq]; omega
        clear h1 h2 h5 h6 h7 h8
        go_big_quiet (fail)
        go_wp2_with fail
        go_meet
        exact ⟨rfl, Lib.hid (HWD.out _)⟩
    · have hi := HI.out.trans h1
      subst hi
      have hlt : k < nn := by rw [HNN.out]; exact (List.getElem?_eq_some_iff.1 h2).1
      obtain ⟨g, xb, db, rfl, y0, y1, _, hrb⟩ := HNC.out.at_ HNN.out h2
      have hvb : ∀ m, (convert 26 9 (.slice xb f.2.length db)).run Tryz.prog (wc.drewN m) = .ok (.string ⟨f.2.toArray⟩) (wc.drewN m) := fun m => conv_any _ wc.heap.size xb f.2 db ((Reads.of_own hrb).drewN m)
      rcases atI_cases os nm with ⟨h5, h6⟩ | ⟨k2, f2, h5, h6, h7, h8⟩
      · have hj := HJ.out.trans h5
        subst hj
        have hf : kp = false := by rw [HKP.out, h4, h6]; simp
        subst hf
        have t1k : decide ((k : Int) < 0) = false := by rw [decide_eq_false_iff_not]; omega
        have t2k : decide ((0 : Int) ≤ (k : Int)) = true := by rw [decide_eq_true_eq]; omega
        clear h1 h2 h3 h4 h5 h6 hrb y0 y1 hvb
        go_big_quiet (fail)
        go_wp2_with fail
        go_meet
        exact ⟨rfl, Lib.hid (HWD.out _)⟩
      · have hj := HJ.out.trans h5
        subst hj
        have hlt2 : k2 < no := by rw [HNO.out]; exact (List.getElem?_eq_some_iff.1 h6).1
        obtain ⟨g2, xa, da, rfl, z0, z1, _, hra⟩ := HOC.out.at_ HNO.out h6
        have hva : ∀ m, (convert 26 9 (.slice xa f2.2.length da)).run Tryz.prog (wc.drewN m) = .ok (.string ⟨f2.2.toArray⟩) (wc.drewN m) := fun m => conv_any _ wc.heap.size xa f2.2 da ((Reads.of_own hra).drewN m)
        have hf : kp = decide (f.2 = f2.2) := by rw [HKP.out, h4, h8]; simp
        have t1k : decide ((k : Int) < 0) = false := by rw [decide_eq_false_iff_not]; omega
        have t2k : decide ((0 : Int) ≤ (k : Int)) = true := by rw [decide_eq_true_eq]; omega
        have t1k2 : decide ((k2 : Int) < 0) = false := by rw [decide_eq_false_iff_not]; omega
        have t2k2 : decide ((0 : Int) ≤ (k2 : Int)) = true := by rw [decide_eq_true_eq]; omega
        obtain ⟨f1, fd⟩ := f
        obtain ⟨e1, ed⟩ := f2
        simp only [strV] at y0 y1 hvb z0 z1 hva hf
        generalize fd.length = lf at y1 hvb
        generalize ed.length = le at z1 hva
        clear h1 h2 h3 h4 h5 h6 h7 h8 hrb hra
        by_cases he : fd = ed
        · rw [decide_eq_true he] at hf
          subst hf
          have e1 : (fd == ed) = true := by rw [beq_iff_eq]; exact he
          clear he
          go_big_quiet (fail)
          go_wp2_with fail
          go_meet
          exact ⟨rfl, Lib.hid (HWD.out _)⟩
        · rw [decide_eq_false he] at hf
          subst hf
          have e1 : (fd == ed) = false := by rw [beq_eq_false_iff_ne]; exact he
          clear he
          go_big_quiet (fail)
          go_wp2_with fail
          go_meet
          exact ⟨rfl, Lib.hid (HWD.out _)⟩
  case rest =>
  have HWC1 := HWC
  clear HOC HNC HWD
  obtain ⟨W1, rfl⟩ : ∃ x, x = wc := ⟨_, rfl⟩
  obtain ⟨rfl, HW2⟩ := hcut
  go_upto_region 5 with fail
  go_cut [79] (fun s79 wx => s79 = .bool false ∧ Hid (∃ n, wx = w.drewN n))
  case first =>
    by_cases ht : nm = [116]
    · subst ht
      go_wp2_with fail
      go_meet
      exact ⟨rfl, HW2⟩
    · have t1 : (nm == [116]) = false := by rw [beq_eq_false_iff_ne]; exact ht
      have t2 : (nm != [116]) = true := by rw [bne_iff_ne]; exact ht
      have hc : fr = true ∨ fr = false ∧ x ≠ 0 ∧ kp = true := by
        rcases HH1.out with h | h | ⟨h1, h2⟩
        · exact absurd h ht
        · exact .inl (by rw [HFR.out, decide_eq_true h])
        · cases hf : fr with
          | true => exact .inl rfl
          | false => exact .inr ⟨rfl, h1, by rw [HKP.out, decide_eq_true h2]⟩
      rcases hc with hf | ⟨hf, hx, hk⟩
      · subst hf
        clear ht
        go_wp2_with fail
        go_meet
        exact ⟨rfl, HW2⟩
      · subst hf
        subst hk
        have t3 : (x == 0) = false := by rw [beq_eq_false_iff_ne]; exact hx
        clear ht hx
        go_wp2_with fail
        go_meet
        exact ⟨rfl, HW2⟩
  case rest =>
  obtain ⟨rfl, HW3⟩ := hcut
  clear HW2
  go_wp2_with fail
  go_loopw [15, 16] (fun s15 _ wr => ∃ k : Nat, k ≤ nn ∧ s15 = .int .i64 k ∧ Hid (∃ n, wr = w.drewN n)) (fun s _ _ => nn - (intOf s).toNat)
  case atStart => exact ⟨0, Nat.zero_le _, rfl, HW3⟩
  case round =>
    obtain ⟨k, hk, rfl, HWR⟩ := hrel
    by_cases hlt : k < nn
    · obtain ⟨f, h2⟩ : ∃ f, ns[k]? = some f := ⟨_, List.getElem?_eq_getElem (by rw [← HNN.out]; exact hlt)⟩
      have HF := Lib.hid h2
      have HOC : Hid (FilesAt wr bo (.slice A no ca) os) := Lib.hid (by obtain ⟨q, e⟩ := HWR.out; rw [e]; exact HO.out.drewN q)
      have HNC : Hid (FilesAt wr bn (.slice B nn cb) ns) := Lib.hid (by obtain ⟨q, e⟩ := HWR.out; rw [e]; exact HN.out.drewN q)
      have HWD : Hid (∀ q, ∃ n, wr.drewN q = w.drewN n) := Lib.hid fun q => by obtain ⟨r, e⟩ := HWR.out; exact ⟨r + q, by rw [e, World.drewN_drewN]⟩
      obtain ⟨g, xb, db, rfl, y0, y1, _, hrb⟩ := HNC.out.at_ HNN.out h2
      have hvb : ∀ m, (convert 26 9 (.slice xb f.2.length db)).run Tryz.prog (wr.drewN m) = .ok (.string ⟨f.2.toArray⟩) (wr.drewN m) := fun m => conv_any _ wr.heap.size xb f.2 db ((Reads.of_own hrb).drewN m)
      have HAT1 : Hid (Calls Tryz.prog 27 #[.slice A no ca, .string ⟨f.1.toArray⟩] wr fun e w' => e = .returned (.int .i64 (atI os f.1)) ∧ wr = w') := Lib.hid (by obtain ⟨q, e⟩ := HWR.out; exact HATO.out q wr f.1 e)
      obtain ⟨f1, fd⟩ := f
      simp only [strV] at y0 y1 hvb HAT1
      generalize fd.length = lf at y1 hvb
      obtain ⟨i2, hi2⟩ : ∃ i2, i2 = atI os f1 := ⟨_, rfl⟩
      rw [← hi2] at HAT1
      have HI2 := Lib.hid hi2
      clear h2 hrb hi2
      go_upto_region 11 with (go_at_call 27; refine HAT1.out.mono ?_; rintro e w' ⟨rfl, rfl⟩)
      by_cases ht : f1 = [116]
      · have t1 : (f1 == [116]) = true := by rw [beq_iff_eq]; exact ht
        have t2 : (f1 != [116]) = false := by rw [ht]; rfl
        clear ht
        go_big_quiet (fail)
        go_wp2_with fail
        go_roundw
        case rel => exact ⟨k + 1, by omega, by go_num, Lib.hid (HWD.out _)⟩
        case measure => first | (simp [intOf]; done) | (simp [intOf]; omega)
      · have t1 : (f1 == [116]) = false := by rw [beq_eq_false_iff_ne]; exact ht
        have t2 : (f1 != [116]) = true := by rw [bne_iff_ne]; exact ht
        by_cases hm : f1 = nm
        · have t3 : (f1 == nm) = true := by rw [beq_iff_eq]; exact hm
          have t4 : (f1 != nm) = false := by rw [hm]; simp
          clear ht hm
          go_big_quiet (fail)
          go_wp2_with fail
          go_roundw
          case rel => exact ⟨k + 1, by omega, by go_num, Lib.hid (HWD.out _)⟩
          case measure => first | (simp [intOf]; done) | (simp [intOf]; omega)
        · have t3 : (f1 == nm) = false := by rw [beq_eq_false_iff_ne]; exact hm
          have t4 : (f1 != nm) = true := by rw [bne_iff_ne]; exact hm
          have hs : fileOf os f1 = some fd := (HH2.out f1 ht hm).symm.trans (HOW.out k _ HF.out)
          rcases atI_cases os f1 with ⟨h5, h6⟩ | ⟨k2, f2, h5, h6, h7, h8⟩
          · rw [hs] at h6; cases h6
          · have hi := HI2.out.trans h5
            subst hi
            have hlt2 : k2 < no := by rw [HNO.out]; exact (List.getElem?_eq_some_iff.1 h6).1
            obtain ⟨g2, xa, da, rfl, z0, z1, _, hra⟩ := HOC.out.at_ HNO.out h6
            have hva : ∀ m, (convert 26 9 (.slice xa f2.2.length da)).run Tryz.prog (wr.drewN m) = .ok (.string ⟨f2.2.toArray⟩) (wr.drewN m) := fun m => conv_any _ wr.heap.size xa f2.2 da ((Reads.of_own hra).drewN m)
            have hdd : f2.2 = fd := by rw [h8] at hs; injection hs
            obtain ⟨e1, ed⟩ := f2
            simp only [strV] at z0 z1 hva hdd
            generalize ed.length = le at z1 hva
            subst hdd
            have t5 : (ed == ed) = true := by simp
            have t6 : (ed != ed) = false := by simp
            have t1k2 : decide ((k2 : Int) < 0) = false := by rw [decide_eq_false_iff_not]; omega
            have t2k2 : decide ((0 : Int) ≤ (k2 : Int)) = true := by rw [decide_eq_true_eq]; omega
            clear h5 h6 h7 h8 hra hs ht hm
            go_big_quiet (fail)
            go_wp2_with fail
            go_roundw
            case rel => exact ⟨k + 1, by omega, by go_num, Lib.hid (HWD.out _)⟩
            case measure => first | (simp [intOf]; done) | (simp [intOf]; omega)
    · have hkn : k = nn := by omega
      have HKN := Lib.hid hkn
      have hge : decide ((k : Int) < (nn : Int)) = false := by rw [decide_eq_false_iff_not]; omega
      clear hkn
      go_wp2_with fail
      go_loopw [17] (fun s17 wr => ∃ k3 : Nat, k3 ≤ no ∧ s17 = .int .i64 k3 ∧ Hid (∃ n, wr = w.drewN n)) (fun s _ => no - (intOf s).toNat)
      case atStart => exact ⟨0, Nat.zero_le _, rfl, HWR⟩
      case round =>
        obtain ⟨k3, hk3, rfl, HWS⟩ := hrel
        by_cases hlt3 : k3 < no
        · obtain ⟨f, h2⟩ : ∃ f, os[k3]? = some f := ⟨_, List.getElem?_eq_getElem (by rw [← HNO.out]; exact hlt3)⟩
          have HF := Lib.hid h2
          have HOC : Hid (FilesAt wr bo (.slice A no ca) os) := Lib.hid (by obtain ⟨q, e⟩ := HWS.out; rw [e]; exact HO.out.drewN q)
          obtain ⟨g, xb, db, rfl, y0, y1, _, hrb⟩ := HOC.out.at_ HNO.out h2
          have HAT1 : Hid (Calls Tryz.prog 27 #[.slice B nn cb, .string ⟨f.1.toArray⟩] wr fun e w' => e = .returned (.int .i64 (atI ns f.1)) ∧ wr = w') := Lib.hid (by obtain ⟨q, e⟩ := HWS.out; exact HATN.out q wr f.1 e)
          obtain ⟨f1, fd⟩ := f
          simp only [strV] at y0 y1 HAT1
          obtain ⟨i2, hi2⟩ : ∃ i2, i2 = atI ns f1 := ⟨_, rfl⟩
          rw [← hi2] at HAT1
          have HI2 := Lib.hid hi2
          clear h2 hrb hi2 y1
          by_cases ht : f1 = [116]
          · have t1 : (f1 == [116]) = true := by rw [beq_iff_eq]; exact ht
            have t2 : (f1 != [116]) = false := by rw [ht]; rfl
            clear ht
            go_wp2_with fail
            go_roundw
            case rel => exact ⟨k3 + 1, by omega, by go_num, HWS⟩
            case measure => first | (simp [intOf]; done) | (simp [intOf]; omega)
          · have t1 : (f1 == [116]) = false := by rw [beq_eq_false_iff_ne]; exact ht
            have t2 : (f1 != [116]) = true := by rw [bne_iff_ne]; exact ht
            by_cases hm : f1 = nm
            · have t3 : (f1 == nm) = true := by rw [beq_iff_eq]; exact hm
              have t4 : (f1 != nm) = false := by rw [hm]; simp
              clear ht hm
              go_wp2_with fail
              go_roundw
              case rel => exact ⟨k3 + 1, by omega, by go_num, HWS⟩
              case measure => first | (simp [intOf]; done) | (simp [intOf]; omega)
            · have t3 : (f1 == nm) = false := by rw [beq_eq_false_iff_ne]; exact hm
              have t4 : (f1 != nm) = true := by rw [bne_iff_ne]; exact hm
              have hs : fileOf ns f1 ≠ none := fun e => fileOf_mem HF.out ((HH2.out f1 ht hm).symm.trans e)
              rcases atI_cases ns f1 with ⟨h5, h6⟩ | ⟨k2, f2, h5, h6, h7, h8⟩
              · exact absurd h6 hs
              · have hi := HI2.out.trans h5
                subst hi
                have t1k2 : decide ((k2 : Int) < 0) = false := by rw [decide_eq_false_iff_not]; omega
                have t2k2 : decide ((0 : Int) ≤ (k2 : Int)) = true := by rw [decide_eq_true_eq]; omega
                clear h5 h6 h7 h8 hs ht hm
                go_upto_if 157 with (go_at_call 27; refine HAT1.out.mono ?_; rintro e w' ⟨rfl, rfl⟩)
                go_wp2_with fail
                go_roundw
                case rel => exact ⟨k3 + 1, by omega, by go_num, HWS⟩
                case measure => first | (simp [intOf]; done) | (simp [intOf]; omega)
        · have hge3 : decide ((k3 : Int) < (no : Int)) = false := by rw [decide_eq_false_iff_not]; omega
          go_wp2_with fail
          go_ret
          exact ⟨rfl, HWS.out⟩
end Go.Proofs.YtdmcjomcbhdcbaaGreat

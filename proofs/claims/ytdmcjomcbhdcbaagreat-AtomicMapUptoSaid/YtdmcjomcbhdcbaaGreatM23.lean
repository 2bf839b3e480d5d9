/- One writing and a loss of power: the plain law. No program walked.; drive.Remove, wound.Remove.; atomic.Remove over a wound; what the laws ask first. -/
import Derived.Test.YtdmcjomcbhdcbaaGreatM22
import Derived.Test.YtdmcjomcbhdcbaaGreatM9
import Derived.Test.YtdmcjomcbhdcbaaGreatM18
namespace Go.Proofs.YtdmcjomcbhdcbaaGreat
open Go.RowKit Go.Maps

theorem fileOf_map (l : List Nm) (g : Nm → List UInt8) (s : Nm) : fileOf (l.map fun a => (a, g a)) s = if s ∈ l then some (g s) else none := by
  induction l with
  | nil => rfl
  | cons a r ih =>
    show (if a = s then some (g a) else fileOf (r.map fun a => (a, g a)) s) = _
    by_cases h : a = s
    · subst h
      rw [if_pos rfl, if_pos (List.mem_cons_self)]
    · rw [if_neg h, ih]
      by_cases hr : s ∈ r
      · rw [if_pos hr, if_pos (List.mem_cons_of_mem _ hr)]
      · rw [if_neg hr, if_neg (fun hm => by
          rcases List.mem_cons.1 hm with e | e
          · exact h e.symm
          · exact hr e)]
theorem image_shows {S : Drv} {N : Nat} (h : S.Inv N) (s : Nm) : fileOf S.image s = S.shows s := by
  unfold Drv.image
  rw [fileOf_map]
  by_cases hm : s ∈ dnames S.now
  · rw [if_pos hm]
    obtain ⟨_, i, hi⟩ := h.fnow s (mem_dnames h.know h.tnow hm)
    unfold Drv.shows Drv.cont Drv.at_
    rw [hi]; rfl
  · rw [if_neg hm]
    unfold Drv.shows Drv.cont
    cases hg : dget S.now s with
    | none => rfl
    | some i => exact absurd (has_dnamesK h.know h.tnow (has_of_dget hg)) hm
theorem image_own {S : Drv} (k : Nat) (f : File) (hk : S.image[k]? = some f) : fileOf S.image f.1 = some f.2 := by
  unfold Drv.image at hk ⊢
  rw [List.getElem?_map] at hk
  cases hs : (dnames S.now)[k]? with
  | none => rw [hs] at hk; cases hk
  | some s =>
    rw [hs] at hk
    injection hk with hk
    subst hk
    rw [fileOf_map, if_pos (List.mem_of_getElem? hs)]
theorem image_len {S : Drv} {N : Nat} (h : S.Inv N) : S.image.length ≤ N := by
  unfold Drv.image
  rw [List.length_map, dnames_length]
  exact h.snow

/-- All that lies there is safe. -/
def AllSafe (S : Drv) : Prop := ∀ i, i < S.bodies.length → (S.body i).safe = (S.body i).data.length
theorem AllSafe.load {S : Drv} (h : AllSafe S) (f : File) : AllSafe (S.loadStep f) := fun i hi => by
  have hl : (S.loadStep f).bodies.length = S.bodies.length + 1 := by show (S.bodies ++ [_]).length = _; rw [List.length_append]; rfl
  rcases Nat.lt_or_ge i S.bodies.length with h1 | h1
  · rw [load_body_lt S f h1]; exact h i h1
  · obtain rfl : i = S.bodies.length := by omega
    rw [load_body_eq]
theorem loadK_facts : ∀ (fs : List File) (S : Drv) (N : Nat), S.Inv N → S.pending = [] → S.kept = S.now → AllSafe S → S.loads fs = true → (∀ f ∈ fs, f.2.length ≤ 1073741824) → N + fs.length ≤ 1073741824 →
    (S.loadK fs).Inv (N + fs.length) ∧ (S.loadK fs).pending = [] ∧ (S.loadK fs).kept = (S.loadK fs).now ∧ AllSafe (S.loadK fs) ∧ (S.loadK fs).room = S.room
  | [], S, N, hI, hp, hk, ha, _, _, _ => ⟨hI, hp, hk, ha, rfl⟩
  | f :: r, S, N, hI, hp, hk, ha, hl, hb, hn => by
    simp only [Drv.loads, Bool.and_eq_true] at hl
    simp only [List.length_cons] at hn
    have h1 := Inv.load hI hp hk f hl.1 (hb f List.mem_cons_self) (by omega)
    have h2 := loadK_facts r (S.loadStep f) (N + 1) h1 hp (by show S.kept.put _ _ = S.now.put _ _; rw [hk]) (ha.load f) hl.2 (fun g hg => hb g (List.mem_cons_of_mem _ hg)) (by omega)
    rw [show N + (f :: r).length = N + 1 + r.length by simp only [List.length_cons]; omega]
    exact h2
theorem holds_plain {S : Drv} {N : Nat} (h : S.Inv N) (hp : S.pending = []) (hk : S.kept = S.now) (ha : AllSafe S) : Holds S (fun s y => y = S.shows s) where
  now s _ := rfl
  kept s _ := by rw [hk]; rfl
  pend c hc := by rw [hp] at hc; cases hc
  whole s i _ hl := by
    have hg : dget S.now s = some i := by
      rcases hl with hl | hl | ⟨c, hc, _⟩
      · exact hl
      · rw [hk] at hl; exact hl
      · rw [hp] at hc; cases hc
    have hi := h.rlt i (refs_mem h.tnow hg)
    exact ⟨hi, ha i hi⟩
/-- What a writing leaves, refused ahead of any call or not. -/
def turnW (X : Wnd) (S : Drv) (nm : Nm) (bs : List UInt8) : Wnd × Drv × Int := if lookE nm = 0 then awrite X S nm bs else (X, S, 91)
theorem turn_law {X Y : Wnd} {S T : Drv} {c N r : Nat} {nm : Nm} {bs : List UInt8} {x : Int} (hK : Kept X S c N r) (hN : N + 5 ≤ 1073741824) (hH : Holds S (fun s y => y = S.shows s)) (hy : turnW X S nm bs = (Y, T, x)) (dirs : List Bool) (cuts : List Int) :
    Kept Y T (c + 5) (N + 5) r ∧ (nm = [116] ∨ fileOf (T.crash dirs cuts).image nm = some bs ∨ (x ≠ 0 ∧ fileOf (T.crash dirs cuts).image nm = fileOf S.image nm)) ∧ ∀ s, s ≠ [116] → s ≠ nm → fileOf (T.crash dirs cuts).image s = fileOf S.image s := by
  unfold turnW at hy
  by_cases hl : lookE nm = 0
  · rw [if_pos hl] at hy
    have hn : named nm = true ∧ nm ≠ [116] := by
      unfold lookE at hl
      split at hl
      · assumption
      · cases hl
    have hK2 := awrite_kept hK nm bs hN
    rw [hy] at hK2
    have hE := awrite_law hn.1 hn.2 hK hN hH hy
    have hc := hE.holds.crash hK2.drv dirs cuts
    have hi := Drv.crash_inv hK2.drv dirs cuts
    refine ⟨hK2, .inr ?_, fun s hs hsn => ?_⟩
    · rw [image_shows hi, image_shows hK.drv]
      by_cases hx : x = 0
      · obtain ⟨h1, h2⟩ := hE.ok hx
        have := (h1.crash hK2.drv dirs cuts).now nm hn.2
        exact .inl (this.trans h2)
      · rcases hc.now nm hn.2 with h1 | ⟨_, h1⟩
        · exact .inr ⟨hx, h1⟩
        · exact .inl h1
    · rw [image_shows hi, image_shows hK.drv]
      rcases hc.now s hs with h1 | ⟨h1, _⟩
      · exact h1
      · exact absurd h1 hsn
  · rw [if_neg hl] at hy
    injection hy with e1 hy
    injection hy with e2 e3
    subst e1 e2 e3
    have hc := hH.crash hK.drv dirs cuts
    have hi := Drv.crash_inv hK.drv dirs cuts
    refine ⟨hK.mono (by omega) (by omega) hN, ?_, fun s hs _ => ?_⟩
    · by_cases ht : nm = [116]
      · exact .inl ht
      · refine .inr (.inr ⟨by decide, ?_⟩)
        rw [image_shows hi, image_shows hK.drv]
        exact hc.now nm ht
    · rw [image_shows hi, image_shows hK.drv]
      exact hc.now s hs
end Go.Proofs.YtdmcjomcbhdcbaaGreat
namespace Go.Proofs.YtdmcjomcbhdcbaaGreat
open Go.RowKit Go.Maps

set_option maxRecDepth 100000 in
theorem remove_any (p : Nat) (S : Drv) (F : Nat → Prop) (s : ByteArray) (w : World) (hs : s.size ≤ maxLen) (hd : Dr w p S F) (hS : S.Small) :
    Calls Tryz.prog 172 #[.pointer (some ⟨p, 0, none⟩), .string s] w fun e w' =>
      e = .returned (.int .i64 (S.remove s.data.toList).2) ∧ Dr w' p (S.remove s.data.toList).1 (grow F w w') ∧ Touch F w w' := by
  obtain ⟨addr, hd⟩ := hd
  have HF := Lib.hid (find_any p S addr F s w hs hd)
  have HD := Lib.hid hd
  rcases find_cases S s.data.toList with ⟨hf, he⟩ | ⟨i, hf, hg⟩
  · obtain ⟨x, hx⟩ : ∃ x, x = (S.find s.data.toList).2 := ⟨_, rfl⟩
    rw [← hx] at hf he
    have HR : Hid (S.remove s.data.toList = (S, x)) := by unfold Drv.remove; rw [hf]; exact rfl
    rw [hf] at HF
    simp only [ptrO] at HF
    have hne : (x == 0) = false := by rcases he with rfl | rfl <;> rfl
    clear hd hx hf he hS
    rw [HR.out]
    go_enter Tryz.func172, Tryz.ntmps172
    go_wp2_with (go_at_call 97; refine HF.out.mono ?_; rintro e w' ⟨rfl, rfl⟩)
    go_ret
    exact ⟨rfl, ⟨_, HD.out.mono fun k h => .inl h⟩, Touch.refl _ _⟩
  · have HR : Hid (S.remove s.data.toList = (S.change [(s.data.toList, none)], 0)) := by unfold Drv.remove; rw [hf]; exact rfl
    rw [hf] at HF
    simp only [ptrO] at HF
    have HC := Lib.hid (change_new p S addr F [(s.data.toList, none)] w #[.string s, .pointer none] rfl hd hS (by intro x hx; simp at hx; subst hx; exact ⟨by rw [len_size]; exact hs, fun i hi => by cases hi⟩) (by simp))
    clear hd hf hg hS
    rw [HR.out]
    go_enter Tryz.func172, Tryz.ntmps172
    go_wp2_with (first
      | (go_at_call 97; refine HF.out.mono ?_; rintro e w' ⟨rfl, rfl⟩)
      | (go_at_call 176; refine HC.out.mono ?_; rintro e w3 ⟨rfl, hd3, ht3⟩; have HD3 := Lib.hid hd3; have HT3 := Lib.hid ht3; clear hd3 ht3))
    go_ret
    exact ⟨rfl, HD3.out, HT3.out⟩


theorem wremove_any (q p : Nat) (X : Wnd) (S : Drv) (F : Nat → Prop) (s : ByteArray) (w : World) (hs : s.size ≤ maxLen) (h : WD w q p X S F) (hX : X.Ok) (hS : S.Small) :
    Calls Tryz.prog 165 #[.pointer (some ⟨q, 0, none⟩), .string s] w fun e w' =>
      e = .returned (.int .i64 (wcall X S false (S.remove s.data.toList)).2.2) ∧ WD w' q p (wcall X S false (S.remove s.data.toList)).1 (wcall X S false (S.remove s.data.toList)).2.1 (grow F w w') ∧ Touch F w w' := by
  obtain ⟨FW, FD, hA, hF⟩ := h
  have HA := Lib.hid hA
  have HFF := Lib.hid hF
  have HK := Lib.hid (struck_any q _ X FW false w hA.wn hX)
  have HSM := Lib.hid hS
  clear hA hX hS
  by_cases he : (X.struck false).2.1 = 0
  · have hr : wcall X S false (S.remove s.data.toList) = ((X.struck false).1, (S.remove s.data.toList).1, (S.remove s.data.toList).2) := by unfold wcall; rw [if_pos he]
    have HR := Lib.hid hr; clear hr
    rw [HR.out]
    have HE := Lib.hid he; clear he
    go_enter Tryz.func165, Tryz.ntmps165
    go_wp2_with (first
      | (go_at_call 83; refine HK.out.mono ?_; rintro e w1 ⟨rfl, hw1, ht1⟩; rw [HE.out]; have q0 : w1.cell? ⟨q, 0, none⟩ = some (.pointer (some ⟨p, 0, none⟩)) := head_cell hw1; have HW1 := Lib.hid hw1; have HT1 := Lib.hid ht1; have HA1 : Hid (Apart w1 q p _ S FW FD) := Lib.hid (HA.out.wound hw1 ht1); clear hw1 ht1)
      | (go_at_call 172; refine (remove_any p S FD s w1 hs HA1.out.dr HSM.out).mono ?_; rintro e w2 ⟨rfl, hd2, ht2⟩; have HD2 := Lib.hid hd2; have HT2 := Lib.hid ht2; clear hd2 ht2))
    go_ret
    exact ⟨rfl, both_steps HA.out HFF.out HW1.out HT1.out HD2.out HT2.out⟩
  · obtain ⟨z, hz⟩ : ∃ z, z = (X.struck false).2.1 := ⟨_, rfl⟩
    have hr : wcall X S false (S.remove s.data.toList) = ((X.struck false).1, S, z) := by unfold wcall; rw [if_neg he, hz]
    have HR := Lib.hid hr; clear hr
    rw [HR.out]
    have HZ := Lib.hid hz
    have hne : (z != 0) = true := by rw [hz]; simpa using he
    clear he hz
    go_enter Tryz.func165, Tryz.ntmps165
    go_wp2_with (go_at_call 83; refine HK.out.mono ?_; rintro e w1 ⟨rfl, hw1, ht1⟩; rw [← HZ.out]; have HW1 := Lib.hid hw1; have HT1 := Lib.hid ht1; clear hw1 ht1)
    go_ret
    exact ⟨rfl, wound_step HA.out HFF.out HW1.out HT1.out⟩

end Go.Proofs.YtdmcjomcbhdcbaaGreat
namespace Go.Proofs.YtdmcjomcbhdcbaaGreat
open Go.RowKit Go.Maps

def aremove (X : Wnd) (S : Drv) (nm : Nm) : Wnd × Drv × Int :=
  if (wcall X S false (S.remove nm)).2.2 ≠ 0 ∧ (wcall X S false (S.remove nm)).2.2 ≠ 110 then wcall X S false (S.remove nm)
  else wcall (wcall X S false (S.remove nm)).1 (wcall X S false (S.remove nm)).2.1 false ((wcall X S false (S.remove nm)).2.1.syncDir, 0)
set_option maxRecDepth 100000 in
set_option maxHeartbeats 4000000 in
theorem aremove_any (q p : Nat) (X : Wnd) (S : Drv) (F : Nat → Prop) (nm : List UInt8) (w : World) (hd : WD w q p X S F) (hnm : nm.length ≤ maxLen) (hlk : lookE nm = 0) (hX : X.Ok) (hS : S.Small)
    (hX2 : (wcall X S false (S.remove nm)).1.Ok) (hS2 : (wcall X S false (S.remove nm)).2.1.Small) :
    Calls Tryz.prog 16 #[.iface 40 (.pointer (some ⟨q, 0, none⟩)), .string ⟨nm.toArray⟩] w fun e w' => e = .returned (.int .i64 (aremove X S nm).2.2) ∧ WD w' q p (aremove X S nm).1 (aremove X S nm).2.1 (grow F w w') ∧ Touch F w w' := by
  have hm1 : ∀ W : World, (method 332 40 (.pointer (some ⟨q, 0, none⟩)) "Remove").run Tryz.prog W = .ok (165, .pointer (some ⟨q, 0, none⟩)) W := fun _ => by kernel_rfl
  have hm2 : ∀ W : World, (method 332 40 (.pointer (some ⟨q, 0, none⟩)) "SyncDir").run Tryz.prog W = .ok (168, .pointer (some ⟨q, 0, none⟩)) W := fun _ => by kernel_rfl
  have HL : Hid (∀ W, Calls Tryz.prog 38 #[.iface 40 (.pointer (some ⟨q, 0, none⟩)), .string ⟨nm.toArray⟩] W fun e w' => e = .returned (.int .i64 0) ∧ W = w') := Lib.hid fun W => by
    have := look_any ⟨q, 0, none⟩ nm W hnm
    rw [hlk] at this
    exact this
  have hc := wremove_any q p X S F ⟨nm.toArray⟩ w (by show nm.toArray.size ≤ maxLen; simpa using hnm) hd hX hS
  rw [show (⟨nm.toArray⟩ : ByteArray).data.toList = nm by simp] at hc
  obtain ⟨Y, T, x, hy⟩ : ∃ Y T x, wcall X S false (S.remove nm) = (Y, T, x) := ⟨_, _, _, rfl⟩
  have hE : aremove X S nm = if x ≠ 0 ∧ x ≠ 110 then (Y, T, x) else wcall Y T false (T.syncDir, 0) := by unfold aremove; rw [hy]
  rw [hy] at hc hX2 hS2
  rw [hE]
  have HC := Lib.hid hc
  have HX2 := Lib.hid hX2
  have HS2 := Lib.hid hS2
  clear hd hX hS hc hE hX2 hS2 hy hlk
  by_cases hb : x ≠ 0 ∧ x ≠ 110
  · rw [if_pos hb]
    have t1 : (x == 0) = false := by rw [beq_eq_false_iff_ne]; exact hb.1
    have t2 : (x == 110) = false := by rw [beq_eq_false_iff_ne]; exact hb.2
    have t3 : (x != 0) = true := by rw [bne_iff_ne]; exact hb.1
    have t4 : (x != 110) = true := by rw [bne_iff_ne]; exact hb.2
    clear hb
    go_enter Tryz.func16, Tryz.ntmps16
    go_wp2_with (first
      | (go_at_call 38; refine (HL.out _).mono ?_; rintro e w' ⟨rfl, rfl⟩)
      | (go_at_call 165; refine HC.out.mono ?_; rintro e w1 ⟨rfl, h1, h2⟩; have H1 := Lib.hid h1; have H2 := Lib.hid h2; clear h1 h2)
      | fail)
    go_ret
    exact ⟨rfl, H1.out, H2.out⟩
  · rw [if_neg hb]
    have ht : x = 0 ∨ (x == 0) = false ∧ (x != 0) = true ∧ x = 110 := by
      by_cases h0 : x = 0
      · exact .inl h0
      · exact .inr ⟨by rw [beq_eq_false_iff_ne]; exact h0, by rw [bne_iff_ne]; exact h0, Decidable.byContradiction fun h => hb ⟨h0, h⟩⟩
    clear hb
    have H3 : Hid (∀ w1 G, WD w1 q p Y T G → Calls Tryz.prog 168 #[.pointer (some ⟨q, 0, none⟩)] w1 fun e w' => e = .returned (.int .i64 (wcall Y T false (T.syncDir, 0)).2.2) ∧ WD w' q p (wcall Y T false (T.syncDir, 0)).1 (wcall Y T false (T.syncDir, 0)).2.1 (grow G w1 w') ∧ Touch G w1 w') := Lib.hid fun w1 G h => wsyncDir_any q p Y T G w1 h HX2.out HS2.out
    generalize wcall Y T false (T.syncDir, 0) = R3 at H3 ⊢
    rcases ht with rfl | ⟨t1, t2, rfl⟩ <;> (
      go_enter Tryz.func16, Tryz.ntmps16
      go_wp2_with (first
        | (go_at_call 38; refine (HL.out _).mono ?_; rintro e w' ⟨rfl, rfl⟩)
        | (go_at_call 165; refine HC.out.mono ?_; rintro e w1 ⟨rfl, h1, h2⟩; have H1 := Lib.hid h1; have H2 := Lib.hid h2; clear h1 h2)
        | (go_at_call 168; refine (H3.out _ _ H1.out).mono ?_; rintro e w2 ⟨rfl, h1, h2⟩; have H4 := Lib.hid h1; have H5 := Lib.hid h2; clear h1 h2)
        | fail)
      go_ret
      exact ⟨rfl, H4.out.mono fun i hi => (grow_trans H2.out.size H5.out.size i).1 hi, H2.out.trans H5.out⟩)
end Go.Proofs.YtdmcjomcbhdcbaaGreat

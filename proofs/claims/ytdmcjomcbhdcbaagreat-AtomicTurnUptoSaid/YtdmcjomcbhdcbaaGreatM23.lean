/- drive.Remove, wound.Remove.; atomic.Remove over a wound; what the laws ask first.; What the laws ask first. -/
import Derived.Test.YtdmcjomcbhdcbaaGreatM22
import Derived.Lib.SmallJoins
namespace Go.Proofs.YtdmcjomcbhdcbaaGreat
open Go.RowKit Go.Maps

set_option maxRecDepth 100000 in
theorem remove_any (p : Nat) (S : Drv) (F : Nat → Prop) (s : ByteArray) (w : World) (hs : s.size ≤ maxLen) (hd : Dr w p S F) (hS : S.Small) :
    Calls Tryz.prog 172 #[.pointer (some ⟨p, 0, none⟩), .string s] w fun e w' =>
      e = .returned (.int .i64 (S.remove s.data.toList).2) ∧ Dr w' p (S.remove s.data.toList).1 (grow F w w') ∧ Touch F w w' := by
  obtain ⟨addr, hd⟩ := hd
  have HF := Lib.hid (find_any p S addr F s w hs hd)
  have HD := Lib.hid hd
  rcases find_cases S s.data.toList with ⟨hf, he⟩ | ⟨i, hf, hg⟩
  · obtain ⟨x, hx⟩ : ∃ x, x = (S.find s.data.toList).2 := ⟨_, rfl⟩
    rw [← hx] at hf he
    have HR : Hid (S.remove s.data.toList = (S, x)) := by unfold Drv.remove; rw [hf]; exact rfl
    rw [hf] at HF
    simp only [ptrO] at HF
    have hne : (x == 0) = false := by rcases he with rfl | rfl <;> rfl
    clear hd hx hf he hS
    rw [HR.out]
    go_enter Tryz.func172, Tryz.ntmps172
    go_wp2_with (go_at_call 97; refine HF.out.mono ?_; rintro e w' ⟨rfl, rfl⟩)
    go_ret
    exact ⟨rfl, ⟨_, HD.out.mono fun k h => .inl h⟩, Touch.refl _ _⟩
  · have HR : Hid (S.remove s.data.toList = (S.change [(s.data.toList, none)], 0)) := by unfold Drv.remove; rw [hf]; exact rfl
    rw [hf] at HF
    simp only [ptrO] at HF
    have HC := Lib.hid (change_new p S addr F [(s.data.toList, none)] w #[.string s, .pointer none] rfl hd hS (by intro x hx; simp at hx; subst hx; exact ⟨by rw [len_size]; exact hs, fun i hi => by cases hi⟩) (by simp))
    clear hd hf hg hS
    rw [HR.out]
    go_enter Tryz.func172, Tryz.ntmps172
    go_wp2_with (first
      | (go_at_call 97; refine HF.out.mono ?_; rintro e w' ⟨rfl, rfl⟩)
      | (go_at_call 176; refine HC.out.mono ?_; rintro e w3 ⟨rfl, hd3, ht3⟩; have HD3 := Lib.hid hd3; have HT3 := Lib.hid ht3; clear hd3 ht3))
    go_ret
    exact ⟨rfl, HD3.out, HT3.out⟩


theorem wremove_any (q p : Nat) (X : Wnd) (S : Drv) (F : Nat → Prop) (s : ByteArray) (w : World) (hs : s.size ≤ maxLen) (h : WD w q p X S F) (hX : X.Ok) (hS : S.Small) :
    Calls Tryz.prog 165 #[.pointer (some ⟨q, 0, none⟩), .string s] w fun e w' =>
      e = .returned (.int .i64 (wcall X S false (S.remove s.data.toList)).2.2) ∧ WD w' q p (wcall X S false (S.remove s.data.toList)).1 (wcall X S false (S.remove s.data.toList)).2.1 (grow F w w') ∧ Touch F w w' := by
  obtain ⟨FW, FD, hA, hF⟩ := h
  have HA := Lib.hid hA
  have HFF := Lib.hid hF
  have HK := Lib.hid (struck_any q _ X FW false w hA.wn hX)
  have HSM := Lib.hid hS
  clear hA hX hS
  by_cases he : (X.struck false).2.1 = 0
  · have hr : wcall X S false (S.remove s.data.toList) = ((X.struck false).1, (S.remove s.data.toList).1, (S.remove s.data.toList).2) := by unfold wcall; rw [if_pos he]
    have HR := Lib.hid hr; clear hr
    rw [HR.out]
    have HE := Lib.hid he; clear he
    go_enter Tryz.func165, Tryz.ntmps165
    go_wp2_with (first
      | (go_at_call 83; refine HK.out.mono ?_; rintro e w1 ⟨rfl, hw1, ht1⟩; rw [HE.out]; have q0 : w1.cell? ⟨q, 0, none⟩ = some (.pointer (some ⟨p, 0, none⟩)) := head_cell hw1; have HW1 := Lib.hid hw1; have HT1 := Lib.hid ht1; have HA1 : Hid (Apart w1 q p _ S FW FD) := Lib.hid (HA.out.wound hw1 ht1); clear hw1 ht1)
      | (go_at_call 172; refine (remove_any p S FD s w1 hs HA1.out.dr HSM.out).mono ?_; rintro e w2 ⟨rfl, hd2, ht2⟩; have HD2 := Lib.hid hd2; have HT2 := Lib.hid ht2; clear hd2 ht2))
    go_ret
    exact ⟨rfl, both_steps HA.out HFF.out HW1.out HT1.out HD2.out HT2.out⟩
  · obtain ⟨z, hz⟩ : ∃ z, z = (X.struck false).2.1 := ⟨_, rfl⟩
    have hr : wcall X S false (S.remove s.data.toList) = ((X.struck false).1, S, z) := by unfold wcall; rw [if_neg he, hz]
    have HR := Lib.hid hr; clear hr
    rw [HR.out]
    have HZ := Lib.hid hz
    have hne : (z != 0) = true := by rw [hz]; simpa using he
    clear he hz
    go_enter Tryz.func165, Tryz.ntmps165
    go_wp2_with (go_at_call 83; refine HK.out.mono ?_; rintro e w1 ⟨rfl, hw1, ht1⟩; rw [← HZ.out]; have HW1 := Lib.hid hw1; have HT1 := Lib.hid ht1; clear hw1 ht1)
    go_ret
    exact ⟨rfl, wound_step HA.out HFF.out HW1.out HT1.out⟩

end Go.Proofs.YtdmcjomcbhdcbaaGreat
namespace Go.Proofs.YtdmcjomcbhdcbaaGreat
open Go.RowKit Go.Maps

def aremove (X : Wnd) (S : Drv) (nm : Nm) : Wnd × Drv × Int :=
  if (wcall X S false (S.remove nm)).2.2 ≠ 0 ∧ (wcall X S false (S.remove nm)).2.2 ≠ 110 then wcall X S false (S.remove nm)
  else wcall (wcall X S false (S.remove nm)).1 (wcall X S false (S.remove nm)).2.1 false ((wcall X S false (S.remove nm)).2.1.syncDir, 0)
set_option maxRecDepth 100000 in
set_option maxHeartbeats 4000000 in
theorem aremove_any (q p : Nat) (X : Wnd) (S : Drv) (F : Nat → Prop) (nm : List UInt8) (w : World) (hd : WD w q p X S F) (hnm : nm.length ≤ maxLen) (hlk : lookE nm = 0) (hX : X.Ok) (hS : S.Small)
    (hX2 : (wcall X S false (S.remove nm)).1.Ok) (hS2 : (wcall X S false (S.remove nm)).2.1.Small) :
    Calls Tryz.prog 16 #[.iface 40 (.pointer (some ⟨q, 0, none⟩)), .string ⟨nm.toArray⟩] w fun e w' => e = .returned (.int .i64 (aremove X S nm).2.2) ∧ WD w' q p (aremove X S nm).1 (aremove X S nm).2.1 (grow F w w') ∧ Touch F w w' := by
  have hm1 : ∀ W : World, (method 332 40 (.pointer (some ⟨q, 0, none⟩)) "Remove").run Tryz.prog W = .ok (165, .pointer (some ⟨q, 0, none⟩)) W := fun _ => by kernel_rfl
  have hm2 : ∀ W : World, (method 332 40 (.pointer (some ⟨q, 0, none⟩)) "SyncDir").run Tryz.prog W = .ok (168, .pointer (some ⟨q, 0, none⟩)) W := fun _ => by kernel_rfl
  have HL : Hid (∀ W, Calls Tryz.prog 38 #[.iface 40 (.pointer (some ⟨q, 0, none⟩)), .string ⟨nm.toArray⟩] W fun e w' => e = .returned (.int .i64 0) ∧ W = w') := Lib.hid fun W => by
    have := look_any ⟨q, 0, none⟩ nm W hnm
    rw [hlk] at this
    exact this
  have hc := wremove_any q p X S F ⟨nm.toArray⟩ w (by show nm.toArray.size ≤ maxLen; simpa using hnm) hd hX hS
  rw [show (⟨nm.toArray⟩ : ByteArray).data.toList = nm by simp] at hc
  obtain ⟨Y, T, x, hy⟩ : ∃ Y T x, wcall X S false (S.remove nm) = (Y, T, x) := ⟨_, _, _, rfl⟩
  have hE : aremove X S nm = if x ≠ 0 ∧ x ≠ 110 then (Y, T, x) else wcall Y T false (T.syncDir, 0) := by unfold aremove; rw [hy]
  rw [hy] at hc hX2 hS2
  rw [hE]
  have HC := Lib.hid hc
  have HX2 := Lib.hid hX2
  have HS2 := Lib.hid hS2
  clear hd hX hS hc hE hX2 hS2 hy hlk
  by_cases hb : x ≠ 0 ∧ x ≠ 110
  · rw [if_pos hb]
    have t1 : (x == 0) = false := by rw [beq_eq_false_iff_ne]; exact hb.1
    have t2 : (x == 110) = false := by rw [beq_eq_false_iff_ne]; exact hb.2
    have t3 : (x != 0) = true := by rw [bne_iff_ne]; exact hb.1
    have t4 : (x != 110) = true := by rw [bne_iff_ne]; exact hb.2
    clear hb
    go_enter Tryz.func16, Tryz.ntmps16
    go_wp2_with (first
      | (go_at_call 38; refine (HL.out _).mono ?_; rintro e w' ⟨rfl, rfl⟩)
      | (go_at_call 165; refine HC.out.mono ?_; rintro e w1 ⟨rfl, h1, h2⟩; have H1 := Lib.hid h1; have H2 := Lib.hid h2; clear h1 h2)
      | fail)
    go_ret
    exact ⟨rfl, H1.out, H2.out⟩
  · rw [if_neg hb]
    have ht : x = 0 ∨ (x == 0) = false ∧ (x != 0) = true ∧ x = 110 := by
      by_cases h0 : x = 0
      · exact .inl h0
      · exact .inr ⟨by rw [beq_eq_false_iff_ne]; exact h0, by rw [bne_iff_ne]; exact h0, Decidable.byContradiction fun h => hb ⟨h0, h⟩⟩
    clear hb
    have H3 : Hid (∀ w1 G, WD w1 q p Y T G → Calls Tryz.prog 168 #[.pointer (some ⟨q, 0, none⟩)] w1 fun e w' => e = .returned (.int .i64 (wcall Y T false (T.syncDir, 0)).2.2) ∧ WD w' q p (wcall Y T false (T.syncDir, 0)).1 (wcall Y T false (T.syncDir, 0)).2.1 (grow G w1 w') ∧ Touch G w1 w') := Lib.hid fun w1 G h => wsyncDir_any q p Y T G w1 h HX2.out HS2.out
    generalize wcall Y T false (T.syncDir, 0) = R3 at H3 ⊢
    rcases ht with rfl | ⟨t1, t2, rfl⟩ <;> (
      go_enter Tryz.func16, Tryz.ntmps16
      go_wp2_with (first
        | (go_at_call 38; refine (HL.out _).mono ?_; rintro e w' ⟨rfl, rfl⟩)
        | (go_at_call 165; refine HC.out.mono ?_; rintro e w1 ⟨rfl, h1, h2⟩; have H1 := Lib.hid h1; have H2 := Lib.hid h2; clear h1 h2)
        | (go_at_call 168; refine (H3.out _ _ H1.out).mono ?_; rintro e w2 ⟨rfl, h1, h2⟩; have H4 := Lib.hid h1; have H5 := Lib.hid h2; clear h1 h2)
        | fail)
      go_ret
      exact ⟨rfl, H4.out.mono fun i hi => (grow_trans H2.out.size H5.out.size i).1 hi, H2.out.trans H5.out⟩)
end Go.Proofs.YtdmcjomcbhdcbaaGreat
namespace Go.Proofs.YtdmcjomcbhdcbaaGreat
open Go.RowKit Go.Maps

def awk1 : Wnd × Drv × Int := awrite Wnd.new (Drv.new 100) [102] [111, 110, 101]
def awk2 := wread awk1.1 (awk1.2.1.read [102])
def awk3 : Wnd × Drv × Int := aremove awk2.1 awk1.2.1 [102]
theorem awk1_ok : awk1.2.2 = 0 := by rfl
theorem awk2_ok : awk2.2.1 = [111, 110, 101] ∧ awk2.2.2 = 0 ∧ awk2.1.calls = 6 := by refine ⟨?_, ?_, ?_⟩ <;> rfl
theorem awk3_ok : awk3.2.2 = 0 := by rfl
theorem awk3_im : size awk3.2.1.now = 0 := by rfl
theorem dnew100 (w : World) : Calls Tryz.prog 32 #[.int .i64 100] w fun e w' => ∃ p, e = .returned (.pointer (some ⟨p, 0, none⟩)) ∧ Drb w' w.heap.size p (Drv.new 100) ∧ Below w.heap.size w w' := by
  refine (new_good 100 w (by decide) (by decide)).mono ?_
  rintro e w' ⟨rfl, rfl⟩
  have hb : Below w.heap.size w (((w.alloc (.map #[] 0)).alloc (.map #[] 0)).alloc (.cells #[.int .i64 100, .int .i64 0, .map (some w.heap.size), .map (some (w.heap.size + 1)), .slice none 0 0] 102)) := (((Below.refl _ _).alloc (Nat.le_refl _) _).alloc (by simp) _).alloc (by simp; omega) _
  exact ⟨_, rfl, (dr_lt ⟨[], dr_new w 100⟩), hb⟩
theorem kept0 : Kept Wnd.new (Drv.new 100) 0 0 100 := ⟨Wnd.Okn.new, Drv.new_inv 100 0 (by decide) (by decide), rfl⟩
theorem kept1 : Kept awk1.1 awk1.2.1 5 5 100 := awrite_kept kept0 [102] [111, 110, 101] (by decide)
theorem kept2 : Kept awk2.1 awk1.2.1 6 6 100 := wread_kept kept1 (awk1.2.1.read [102]) (by decide)
theorem kept2r : Kept (wcall awk2.1 awk1.2.1 false (awk1.2.1.remove [102])).1 (wcall awk2.1 awk1.2.1 false (awk1.2.1.remove [102])).2.1 7 7 100 := wcall_kept kept2 false _ (Drv.remove_inv kept2.drv _ (by decide)) (Drv.remove_keepsRoom _ _) (by decide)
theorem kept3 : awk3.2.1.Inv 8 := by
  have h : awk3 = wcall (wcall awk2.1 awk1.2.1 false (awk1.2.1.remove [102])).1 (wcall awk2.1 awk1.2.1 false (awk1.2.1.remove [102])).2.1 false ((wcall awk2.1 awk1.2.1 false (awk1.2.1.remove [102])).2.1.syncDir, 0) := by
    unfold awk3 aremove
    exact if_neg (by intro h; exact absurd (show (wcall awk2.1 awk1.2.1 false (awk1.2.1.remove [102])).2.2 = 0 from rfl) h.1)
  rw [h]
  exact (wcall_kept kept2r false ((wcall awk2.1 awk1.2.1 false (awk1.2.1.remove [102])).2.1.syncDir, 0) (Drv.syncDir_inv kept2r.drv (by decide)) rfl (by decide)).drv
theorem wcallsd_any (q p : Nat) (X : Wnd) (S : Drv) (F : Nat → Prop) (w : World) (h : WD w q p X S F) : Calls Tryz.prog 26 #[.pointer (some ⟨q, 0, none⟩)] w fun e w' => e = .returned (.int .i64 X.calls) ∧ w = w' := by
  obtain ⟨FW, FD, hA, _⟩ := h
  exact calls_any q _ X FW w hA.wn
theorem WD.head {q p : Nat} {X : Wnd} {S : Drv} {F : Nat → Prop} {w : World} (h : WD w q p X S F) : w.cell? ⟨q, 0, none⟩ = some (.pointer (some ⟨p, 0, none⟩)) := by
  obtain ⟨FW, FD, hA, _⟩ := h
  exact head_cell hA.wn
theorem wimage_any (q p : Nat) (X : Wnd) (S : Drv) (F : Nat → Prop) (w : World) {N : Nat} (h : WD w q p X S F) (hI : S.Inv N) (hN : N ≤ 2199023254000) : Calls Tryz.prog 11 #[.pointer (some ⟨p, 0, none⟩)] w fun e w' => ∃ a c, e = .returned (.slice a S.image.length c) ∧ FilesAt w' w.heap.size (.slice a S.image.length c) S.image ∧ Below w.heap.size w w' := by
  obtain ⟨FW, FD, hA, _⟩ := h
  obtain ⟨addr, hd⟩ := hA.dr
  refine (image_any p S addr FD w hd (hI.small hN) hI.fnow).mono ?_
  rintro e w' ⟨v, rfl, hf, hb⟩
  obtain ⟨a, c, rfl, _⟩ := hf.shape
  exact ⟨a, c, rfl, hf, hb⟩
theorem one_string : (⟨([111, 110, 101] : List UInt8).toArray⟩ : ByteArray) = ⟨#[111, 110, 101]⟩ := rfl
theorem aw_lit (w : World) (h q p : Nat) (hh : h ≤ w.heap.size) (hd : WDb w h q p Wnd.new (Drv.new 100)) :
    Calls Tryz.prog 10 #[.iface 40 (.pointer (some ⟨q, 0, none⟩)), .string ⟨#[102]⟩, .slice (some ⟨w.heap.size, 0, none⟩) 3 3] (w.alloc (.cells #[.int .u8 111, .int .u8 110, .int .u8 101] 5 (3, 4))) fun e w' => e = .returned (.int .i64 0) ∧ WDb w' h q p awk1.1 awk1.2.1 ∧ Below h w w' := by
  obtain ⟨V, hV⟩ : ∃ V, V = w.alloc (.cells #[.int .u8 111, .int .u8 110, .int .u8 101] 5 (3, 4)) := ⟨_, rfl⟩
  have hb : Below w.heap.size w V := by rw [hV]; exact (Below.refl _ _).alloc (Nat.le_refl _) _
  have hs : V.heap.size = w.heap.size + 1 := by rw [hV]; simp
  have hr : Reads V V.heap.size 1 (some ⟨w.heap.size, 0, none⟩) 3 (([111, 110, 101] : List UInt8).map B8) := by
    refine ⟨rfl, fun _ => ⟨_, rfl, by rw [hs]; exact Nat.lt_succ_self _, fun j u hj => ?_⟩⟩
    rw [add_plain, hV, Nat.zero_add, World.cell?_alloc_mark]
    have e : (#[.int .u8 111, .int .u8 110, .int .u8 101] : Array Value) = (([111, 110, 101] : List UInt8).map B8).toArray := rfl
    rw [e, List.getElem?_toArray]
    exact hj
  rw [← hV]
  have hd1 : WD V q p Wnd.new (Drv.new 100) (fun k => h ≤ k ∧ k < w.heap.size) := WD.below hd hb
  have hl : lookE [102] = 0 := by decide
  have hc := awrite_any q p Wnd.new (Drv.new 100) (fun k => h ≤ k ∧ k < w.heap.size) ⟨#[102]⟩ (some ⟨w.heap.size, 0, none⟩) 3 [111, 110, 101] V 0 0 100 hd1 (fun k hk => by omega) (fun W => by
    have := look_any ⟨q, 0, none⟩ [102] W (by decide)
    rw [hl] at this
    exact this) (by decide) (fun W hW => (hr.touch hW (Nat.le_refl _) (fun ad e hf => by injection e with e; subst e; have := hf.2; simp at this)).more hW.size) (fun ad e => by injection e with e; subst e; exact ⟨by show w.heap.size < _; omega, fun hf => by have := hf.2; simp at this⟩) (by decide) (by decide) kept0 (by decide) (by decide) (by decide) awk1.1 awk1.2.1 0 rfl
  refine hc.mono ?_
  rintro e w' ⟨he, h1, h2⟩
  have hs2 := h2.size
  refine ⟨he, h1.mono fun k hk => ?_, (hb.mono hh).trans (h2.below (by omega) fun k hk => hk.1)⟩
  rcases hk with hk | hk
  · omega
  · omega
theorem rd_lit (w : World) (h q p : Nat) (hh : h ≤ w.heap.size) (hd : WDb w h q p awk1.1 awk1.2.1) :
    Calls Tryz.prog 33 #[.pointer (some ⟨q, 0, none⟩), .string ⟨#[102]⟩] w fun e w' => ∃ a c, e = .returned (.tuple #[.slice a 3 c, .int .i64 0]) ∧ (convert 26 9 (.slice a 3 c)).run Tryz.prog w' = .ok (.string ⟨#[111, 110, 101]⟩) w' ∧ WDb w' h q p awk2.1 awk1.2.1 ∧ Below h w w' := by
  refine (wread_any q p awk1.1 awk1.2.1 _ ⟨#[102]⟩ w (by decide) hd (kept1.wnd.ok (by decide)) (kept1.drv.small (by decide))).mono ?_
  rintro e w' ⟨v, rfl, ho, h1, h2⟩
  obtain ⟨e1, e2, e3⟩ := awk2_ok
  have e1' : (wread awk1.1 (awk1.2.1.read (⟨#[102]⟩ : ByteArray).data.toList)).2.1 = [111, 110, 101] := e1
  rw [e1'] at ho
  obtain ⟨a, c, rfl, _⟩ := own_shape ho
  have hs2 := h2.size
  exact ⟨a, c, rfl, conv_any w' w'.heap.size a [111, 110, 101] c (Reads.of_own ho), h1.mono fun k hk => by omega, h2.below hh fun k hk => hk.1⟩
theorem rm_lit (w : World) (h q p : Nat) (hh : h ≤ w.heap.size) (hd : WDb w h q p awk2.1 awk1.2.1) :
    Calls Tryz.prog 16 #[.iface 40 (.pointer (some ⟨q, 0, none⟩)), .string ⟨#[102]⟩] w fun e w' => e = .returned (.int .i64 0) ∧ WDb w' h q p awk3.1 awk3.2.1 ∧ Below h w w' := by
  refine (aremove_any q p awk2.1 awk1.2.1 _ [102] w hd (by decide) (by decide) (kept2.wnd.ok (by decide)) (kept2.drv.small (by decide)) (kept2r.wnd.ok (by decide)) (kept2r.drv.small (by decide))).mono ?_
  rintro e w' ⟨he, h1, h2⟩
  have hs2 := h2.size
  refine ⟨he, h1.mono fun k hk => ?_, h2.below hh fun k hk => hk.1⟩
  rcases hk with hk | hk <;> omega
set_option maxRecDepth 100000 in
set_option maxHeartbeats 4000000 in
theorem awake_any (w : World) : Calls Tryz.prog 8 #[] w fun e w' => e = .returned (.bool true) ∧ Below w.heap.size w w' := by
  have HN := Lib.hid (dnew100 w)
  go_enter Tryz.func8, Tryz.ntmps8
  have hcl : awk2.1.calls = 6 := awk2_ok.2.2
  have HCL := Lib.hid hcl
  have him : awk3.2.1.image.length = 0 := by unfold Drv.image; rw [List.length_map, dnames_length]; exact awk3_im
  have HIM := Lib.hid him
  clear hcl him
  go_wp2_with (first
    | (go_at_call 32; refine HN.out.mono ?_; rintro e w1 ⟨p, rfl, hd1, hb1⟩; have HD1 := Lib.hid hd1; have HB1 := Lib.hid hb1; clear hd1 hb1)
    | (go_at_call 31; refine (wnewb_any w.heap.size p _ w1 HB1.out.size HD1.out).mono ?_; rintro e w2 ⟨q, rfl, hd2, hb2⟩; have HD2 := Lib.hid hd2; have HB2 := Lib.hid (HB1.out.trans (hb2.mono HB1.out.size)); have hcv   := Go.Joins.run_convert_bytes_const_at (P := Tryz.prog) w2 26 5 #[.int .u8 111, .int .u8 110, .int .u8 101] 3 3 w2.heap.size rfl Tryz.underlying26 Tryz.underlying5; clear hd2 hb2)
    | (go_at_call 10; refine (aw_lit w2 w.heap.size q p HB2.out.size HD2.out).mono ?_; rintro e w3 ⟨rfl, hd3, hb3⟩; have HD3 := Lib.hid hd3; have HB3 := Lib.hid (HB2.out.trans hb3); clear hd3 hb3)
    | (go_at_call 33; refine (rd_lit w3 w.heap.size q p HB3.out.size HD3.out).mono ?_; rintro e w4 ⟨a4, c4, rfl, hc4, hd4, hb4⟩; have HD4 := Lib.hid hd4; have HB4 := Lib.hid (HB3.out.trans hb4); clear hd4 hb4)
    | (go_at_call 26; refine (wcallsd_any q p _ _ _ w4 HD4.out).mono ?_; rintro e w' ⟨rfl, rfl⟩; rw [HCL.out])
    | (go_at_call 16; refine (rm_lit w4 w.heap.size q p HB4.out.size HD4.out).mono ?_; rintro e w5 ⟨rfl, hd5, hb5⟩; have q0 := WD.head hd5; have HD5 := Lib.hid hd5; have HB5 := Lib.hid (HB4.out.trans hb5); clear hd5 hb5)
    | (go_at_call 11; refine (wimage_any q p _ _ _ w5 HD5.out kept3 (by decide)).mono ?_; rintro e w6 ⟨a6, c6, rfl, hf6, hb6⟩; rw [HIM.out]; have HB6 := Lib.hid (HB5.out.trans (hb6.mono HB5.out.size)); clear hf6 hb6)
    | fail)
  go_ret
  exact ⟨rfl, HB6.out⟩
end Go.Proofs.YtdmcjomcbhdcbaaGreat

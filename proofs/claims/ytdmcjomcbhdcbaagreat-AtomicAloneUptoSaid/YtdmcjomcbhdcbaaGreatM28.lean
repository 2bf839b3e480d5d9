/- The document's drive, walked: Safe.; The document's disk, walked: Append, Read, List; its end of a round, its power, its loss of power.; The document's disk, walked: Read, List; the end of a round; its power. A wound's List. -/
import Derived.Test.YtdmcjomcbhdcbaaGreatM27
namespace Go.Proofs.YtdmcjomcbhdcbaaGreat
open Go.RowKit Go.Maps

end Go.Proofs.YtdmcjomcbhdcbaaGreat
namespace Go.Proofs.YtdmcjomcbhdcbaaGreat
open Go.RowKit Go.Maps

/-- What the document's drive wants, from what the program's keeps. -/
theorem mok_of {S : Drv} {N : Nat} (h : S.Inv N) (hb : S.bodies.length ≤ 1099511627776) : MOk S where
  now := ⟨h.tnow, h.know, h.fnow⟩
  kept := ⟨h.tkept, h.kkept, h.fkept⟩
  snow := by have := h.snow; have := h.rooms; omega
  skept := by have := h.skept; have := h.rooms; omega
  pend := by have := h.pend; have := h.rooms; omega
  nb := hb
  rlt := fun s i hi => h.rlt i (refs_mem h.tnow hi)
  len := fun i => by have := h.len i; omega
theorem usedK_of {S : Drv} {N : Nat} (h : S.Inv N) : S.used = (usedK S (dents S.now) : Nat) ∧ usedK S (dents S.now) ≤ 1152921504606846976 := by
  have e := used_dents h
  refine ⟨e, ?_⟩
  have h1 := h.used
  have h2 := S.sum_le h.len (refs S.now)
  have h3 := refs_length h.tnow
  have h4 := h.snow
  have h5 := h.rooms
  have h6 : (refs S.now).length * 1073741824 ≤ N * 1073741824 := Nat.mul_le_mul_right _ (by omega)
  have h7 : N * 1073741824 ≤ 1073741824 * 1073741824 := Nat.mul_le_mul_right _ h5
  have h8 : (usedK S (dents S.now) : Int) = (S.sum (refs S.now) : Int) := by rw [← h1]; exact e.symm
  omega

theorem wappend_go {X X' : Wnd} {S : Drv} {s : Nm} {bs : List UInt8} {ins : Int} (h : X.struck true = (X', 0, ins)) : wappend X S s bs = (X', (S.append s bs).1, (S.append s bs).2) := by unfold wappend; rw [h]; exact if_pos rfl
theorem wappend_part {X X' : Wnd} {S : Drv} {s : Nm} {bs : List UInt8} {ins z : Int} (h : X.struck true = (X', z, ins)) (hz : z ≠ 0) (h2 : 0 < ins ∧ bs ≠ []) : wappend X S s bs = (X', (S.append s (bs.take ins.toNat)).1, z) := by unfold wappend; rw [h]; simp only; rw [if_neg hz, if_pos h2]
theorem wappend_no {X X' : Wnd} {S : Drv} {s : Nm} {bs : List UInt8} {ins z : Int} (h : X.struck true = (X', z, ins)) (hz : z ≠ 0) (h2 : ¬ (0 < ins ∧ bs ≠ [])) : wappend X S s bs = (X', S, z) := by unfold wappend; rw [h]; simp only; rw [if_neg hz, if_neg h2]

set_option maxRecDepth 100000 in
set_option maxHeartbeats 4000000 in
theorem dappend_lt (q p : Nat) (X : Wnd) (S : Drv) {N : Nat} (F : Nat → Prop) (s : Nm) (A : Option Addr) (n c0 : Nat) (bs : List UInt8) (w : World) (hs : s.length ≤ maxLen) (hFl : ∀ k, F k → k < w.heap.size) (hd : DK w q p X S F) (hX : X.Ok) (hI : S.Inv N) (hS : MOk S)
    (hn : n = bs.length) (hnl : n ≤ 1099511627776) (hnc : n ≤ c0) (hr : Reads w w.heap.size 1 A n (bs.map B8)) (hA : ∀ ad, A = some ad → 0 < n → ¬F ad.block) :
    Calls Tryz.prog 101 #[.pointer (some ⟨q, 0, none⟩), .string ⟨s.toArray⟩, .slice A n c0] w fun e w' => e = .returned (.int .i64 (wappend X S s bs).2.2) ∧ DK w' q p (wappend X S s bs).1 (wappend X S s bs).2.1 (grow F w w') ∧ Touch F w w' := by
  have HASK := Lib.hid (dask_any q p X S F 2 n (by decide) (by omega) hX w hd)
  have HOK := Lib.hid hS
  have HR := Lib.hid (fun W (hW : Touch F w W) => hr.touch0 hW (Nat.le_refl _) hA)
  obtain ⟨hus, hub⟩ := usedK_of hI
  have hrm := hI.room
  have HAPP : Hid (∀ FM (W : World) (m : Nat) (ds : List UInt8) (c : Nat), Md W p S FM → m = ds.length → m ≤ 1099511627776 → Reads W W.heap.size 1 A m (ds.map B8) → Calls Tryz.prog 116 #[.pointer (some ⟨p, 0, none⟩), .string ⟨s.toArray⟩, .slice A m c] W fun e w' => e = .returned (.int .i64 (S.append s ds).2) ∧ Md w' p (S.append s ds).1 (grow FM W w') ∧ Touch FM W w') :=
    Lib.hid fun FM W m ds c hm h1 h2 h3 => mappend_any p S FM s A m c ds W hs hm hS hus hub hrm h1 h2 h3
  rw [show gmay 2 = true from rfl] at HASK
  have HN := Lib.hid hn
  obtain ⟨X', z, ins, hst⟩ : ∃ X' z ins, X.struck true = (X', z, ins) := ⟨_, _, _, rfl⟩
  by_cases hz : z = 0
  · subst hz
    rw [wappend_go hst]
    rw [hst] at HASK
    simp only at HASK ⊢
    obtain ⟨by_, hby⟩ : ∃ b, b = askB 2 ins n := ⟨_, rfl⟩
    rw [← hby] at HASK
    clear hd hX hS hst hby hr hA hI hus hub hrm hn
    unfold ansV at HASK
    obtain ⟨T, xe, hT⟩ : ∃ T xe, S.append s bs = (T, xe) := ⟨_, _, rfl⟩
    rw [hT]
    simp only
    have HT := Lib.hid hT
    clear hT
    go_enter Tryz.func101, Tryz.ntmps101
    go_wp2_with (first
      | (go_at_call 106; refine HASK.out.mono ?_; rintro e w1 ⟨rfl, hd1, ht1⟩; obtain ⟨y0, hq1⟩ := hd1.head; have HD1 := Lib.hid hd1; have HT1 := Lib.hid ht1; clear hd1 ht1)
      | (go_at_call 116; refine (DK.call (R := fun e _ => e = .returned (.int .i64 xe)) (T := T) (dk_mid HD1.out _) (fun FM hm => (by have := HAPP.out FM _ n bs c0 hm HN.out hnl ((((HR.out _ HT1.out).more HT1.out.size).alloc (Nat.le_refl _) _).more (by simp)); rw [HT.out] at this; exact this))).mono ?_; rintro e w2 ⟨rfl, hd2, ht2⟩; have HD2 := Lib.hid hd2; have HT2 := Lib.hid ht2; clear hd2 ht2))
    go_ret
    exact ⟨rfl, dk_end HD2.out HT1.out ((Below.refl _ w1).alloc (Nat.le_refl _) _) HT2.out⟩
  · rw [hst] at HASK
    simp only at HASK
    have hb : (z == 0) = false := by simpa using hz
    rw [hb] at HASK
    obtain ⟨by_, hby⟩ : ∃ b, b = askB 2 ins n := ⟨_, rfl⟩
    rw [← hby] at HASK
    by_cases hp : 0 < ins ∧ bs ≠ []
    · rw [wappend_part hst hz hp]
      simp only
      obtain ⟨m, hm⟩ : ∃ m : Nat, m = min ins.toNat n := ⟨_, rfl⟩
      have hnpos : 0 < n := by rw [hn]; exact List.length_pos_iff.2 hp.2
      have hbm : by_ = (m : Int) := by rw [hby, hm]; unfold askB; rw [if_pos ⟨rfl, by omega⟩]; omega
      subst hbm
      have hmn : m ≤ n := by omega
      have hm0 : 0 < m := by omega
      obtain ⟨ds, hds⟩ : ∃ ds, ds = bs.take ins.toNat := ⟨_, rfl⟩
      rw [← hds]
      have hdl : m = ds.length := by rw [hds, List.length_take, ← hn]; exact hm
      have htk : ds = bs.take m := by
        rw [hds, hm, hn]
        by_cases h : ins.toNat ≤ bs.length
        · rw [Nat.min_eq_left h]
        · rw [Nat.min_eq_right (by omega), List.take_of_length_le (Nat.le_refl _), List.take_of_length_le (by omega)]
      have HRM := Lib.hid (fun W (hW : Touch F w W) => by have := (HR.out W hW).cutTo hmn; rw [← List.map_take, ← htk] at this; exact this)
      have HDL := Lib.hid hdl
      clear hd hX hS hst hby hr hA hI hus hub hrm hn hds htk hdl hp hb hz hm
      unfold ansV at HASK
      obtain ⟨T, xe, hT⟩ : ∃ T xe, S.append s ds = (T, xe) := ⟨_, _, rfl⟩
      rw [hT]
      simp only
      have HT := Lib.hid hT
      clear hT
      go_enter Tryz.func101, Tryz.ntmps101
      go_wp2_with (go_at_call 106; refine HASK.out.mono ?_; rintro e w1 ⟨rfl, hd1, ht1⟩; obtain ⟨y0, hq1⟩ := hd1.head; have HD1 := Lib.hid hd1; have HT1 := Lib.hid ht1; clear hd1 ht1)
      refine wp_world fun W7 hW7 => ?_
      have HD7 : Hid (DK W7 q p X' S (grow F w w1)) := Lib.hid (by rw [hW7]; exact dk_mid HD1.out _)
      have HB7 : Hid (Blk W7 w1.heap.size 178 #[.bool false, .int .i64 m, .int .i64 z]) := Lib.hid (by rw [hW7]; exact Blk.new _ _ _)
      have HE7 : Hid (Below w1.heap.size w1 W7) := Lib.hid (by rw [hW7]; exact (Below.refl _ w1).alloc (Nat.le_refl _) _)
      have h7s : W7.heap.size = w1.heap.size + 1 := by rw [hW7]; simp
      have h1s : w.heap.size ≤ w1.heap.size := HT1.out.size
      have HNF : Hid (¬ grow F w w1 w1.heap.size) := Lib.hid (by rintro (h | h); (have := hFl _ h; omega); omega)
      have z0 : W7.cell? ⟨q, 0, none⟩ = some (.pointer (some ⟨p, 0, none⟩)) := HD7.out.head.1
      have z1 : W7.cell? ⟨w1.heap.size, 1, none⟩ = some (.int .i64 m) := HB7.out.cell 1
      clear hW7
      have hs0 : (0 : Int) ≤ (m : Int) := by omega
      have hs1 : (m : Int) ≤ (c0 : Int) := by omega
      go_region_held3 (fun w' => w'.cell? ⟨q, 0, none⟩ = some (.pointer (some ⟨p, 0, none⟩)) ∧ w'.cell? ⟨w1.heap.size, 1, none⟩ = some (.int .i64 m)) (first | go_keep | exact HQ2.out) ((first
        | (go_at_call 116; refine (DK.call (R := fun e _ => e = .returned (.int .i64 xe)) (T := T) (HD7.out.below (below_drew1 (Below.refl _ _))) (fun FM hm => (by have := HAPP.out FM W7.drew m ds c0 hm HDL.out (by omega) ((((HRM.out _ HT1.out).more h1s).below HE7.out).more (by show w1.heap.size ≤ W7.heap.size; omega)); rw [HT.out] at this; exact this))).mono ?_; rintro e w2 ⟨rfl, hd2, ht2⟩; have HD2 : Hid (DK w2 q p X' T (grow (grow F w w1) W7 w2)) := Lib.hid hd2; have HT2 : Hid (Touch (grow F w w1) W7 w2) := Lib.hid ⟨ht2.os, ht2.tape, ht2.output, ht2.size, ht2.block⟩; have HB2 := Lib.hid (HB7.out.touch HT2.out HNF.out); have HQ2 := Lib.hid (⟨hd2.head.1, HB2.out.cell 1⟩ : w2.cell? ⟨q, 0, none⟩ = some (.pointer (some ⟨p, 0, none⟩)) ∧ w2.cell? ⟨w1.heap.size, 1, none⟩ = some (.int .i64 m)); clear hd2 ht2)
        | fail))
      all_goals
        refine exit_world fun V hV => ?_
        have HDV : Hid (DK V q p X' T (grow (grow F w w1) W7 V)) := Lib.hid (by rw [hV]; exact HD2.out)
        have HTV : Hid (Touch (grow F w w1) W7 V) := Lib.hid (by rw [hV]; exact HT2.out)
        have z2 : V.cell? ⟨w1.heap.size, 2, none⟩ = some (.int .i64 z) := by rw [hV]; exact HB2.out.cell 2
        clear hV
        go_wp2
        go_ret
        exact ⟨rfl, dk_end HDV.out HT1.out HE7.out HTV.out⟩
    · rw [wappend_no hst hz hp]
      simp only
      have hb0 : by_ = 0 := by
        rw [hby]; unfold askB
        by_cases h0 : 0 ≤ ins
        · rw [if_pos ⟨rfl, h0⟩]
          by_cases h1 : ins = 0
          · omega
          · have hbe : bs = [] := Classical.not_not.1 fun h => hp ⟨by omega, h⟩
            rw [hbe] at hn; simp at hn; omega
        · rw [if_neg (fun h => h0 h.2)]
      subst hb0
      clear hd hX hS hst hby hr hA hI hus hub hrm hn hp hb hz
      unfold ansV at HASK
      go_enter Tryz.func101, Tryz.ntmps101
      go_wp2_with (go_at_call 106; refine HASK.out.mono ?_; rintro e w1 ⟨rfl, hd1, ht1⟩; obtain ⟨y0, hq1⟩ := hd1.head; have HD1 := Lib.hid hd1; have HT1 := Lib.hid ht1; clear hd1 ht1)
      go_ret
      exact ⟨rfl, (dk_mid HD1.out _).mono (fun k hk => (by rcases hk with hk | hk; exact .inl hk; exact .inr (by simp; omega))), HT1.out.then_ (Touch.alloc _ _)⟩
theorem dappend_any (q p : Nat) (X : Wnd) (S : Drv) {N : Nat} (F : Nat → Prop) (s : Nm) (A : Option Addr) (n c0 : Nat) (bs : List UInt8) (w : World) (hs : s.length ≤ maxLen) (hd : DK w q p X S F) (hX : X.Ok) (hI : S.Inv N) (hS : MOk S)
    (hn : n = bs.length) (hnl : n ≤ 1099511627776) (hnc : n ≤ c0) (hr : Reads w w.heap.size 1 A n (bs.map B8)) (hA : ∀ ad, A = some ad → 0 < n → ¬F ad.block) :
    Calls Tryz.prog 101 #[.pointer (some ⟨q, 0, none⟩), .string ⟨s.toArray⟩, .slice A n c0] w fun e w' => e = .returned (.int .i64 (wappend X S s bs).2.2) ∧ DK w' q p (wappend X S s bs).1 (wappend X S s bs).2.1 (grow F w w') ∧ Touch F w w' := by
  refine (dappend_lt q p X S (fun k => F k ∧ k < w.heap.size) s A n c0 bs w hs (fun k h => h.2) hd.lt hX hI hS hn hnl hnc hr fun ad e h0 h => hA ad e h0 h.1).mono ?_
  rintro e w' ⟨he, h1, h2⟩
  exact ⟨he, h1.mono fun k hk => by (rcases hk with hk | hk; exact .inl hk.1; exact .inr hk), h2.mono fun k _ hk => hk.1⟩
end Go.Proofs.YtdmcjomcbhdcbaaGreat
namespace Go.Proofs.YtdmcjomcbhdcbaaGreat
open Go.RowKit Go.Maps

theorem wlist_any (q p : Nat) (X : Wnd) (S : Drv) (F : Nat → Prop)  (w : World) (hn : size S.now ≤ 2199023255552) (h : WD w q p X S F) (hX : X.Ok) (hS : S.Small) :
    Calls Tryz.prog 164 #[.pointer (some ⟨q, 0, none⟩)] w fun e w' =>
      ∃ v, e = .returned (.tuple #[v, .int .i64 (wread X ((dnames S.now, (0 : Int)))).2.2]) ∧ w'.ownsRow w.heap.size 9 1 v (wread X ((dnames S.now, (0 : Int)))).2.1.length ((wread X ((dnames S.now, (0 : Int)))).2.1.map strV) ∧
        WD w' q p (wread X ((dnames S.now, (0 : Int)))).1 S F ∧ Touch F w w' := by
  obtain ⟨FW, FD, hA, hF⟩ := h
  have HA := Lib.hid hA
  have HFF := Lib.hid hF
  have HK := Lib.hid (struck_any q _ X FW false w hA.wn hX)
  have HSM := Lib.hid hS
  clear hA hX hS
  by_cases he : (X.struck false).2.1 = 0
  · have hr : wread X ((dnames S.now, (0 : Int))) = ((X.struck false).1, ((dnames S.now, (0 : Int))).1, ((dnames S.now, (0 : Int))).2) := by unfold wread; rw [if_pos he]
    have HR := Lib.hid hr; clear hr
    rw [HR.out]
    have HE := Lib.hid he; clear he
    go_enter Tryz.func164, Tryz.ntmps164
    go_wp2_with (first
      | (go_at_call 83; refine HK.out.mono ?_; rintro e w1 ⟨rfl, hw1, ht1⟩; rw [HE.out]; have q0 : w1.cell? ⟨q, 0, none⟩ = some (.pointer (some ⟨p, 0, none⟩)) := head_cell hw1; have HW1 := Lib.hid hw1; have HT1 := Lib.hid ht1; have hsz1 := ht1.size; have HA1 : Hid (Apart w1 q p _ S FW FD) := Lib.hid (HA.out.wound hw1 ht1); clear hw1 ht1; obtain ⟨addr, hda⟩ := HA1.out.dr; have HDA := Lib.hid hda; clear hda)
      | (go_at_call 171; refine (list_any p S addr FD w1 HDA.out hn).mono ?_; rintro e w2 ⟨v, rfl, ho, hb⟩; have HO := Lib.hid ho; have HB := Lib.hid hb; clear ho hb))
    go_ret2
    exact ⟨v, rfl, ownsRow_base_a HO.out hsz1, read_steps HA.out HFF.out HW1.out HT1.out HB.out⟩
  · obtain ⟨z, hz⟩ : ∃ z, z = (X.struck false).2.1 := ⟨_, rfl⟩
    have hr : wread X ((dnames S.now, (0 : Int))) = ((X.struck false).1, [], z) := by unfold wread; rw [if_neg he, hz]
    have HR := Lib.hid hr; clear hr
    rw [HR.out]
    have HZ := Lib.hid hz
    have hne : (z != 0) = true := by rw [hz]; simpa using he
    clear he hz
    go_enter Tryz.func164, Tryz.ntmps164
    go_wp2_with (go_at_call 83; refine HK.out.mono ?_; rintro e w1 ⟨rfl, hw1, ht1⟩; rw [← HZ.out]; have HW1 := Lib.hid hw1; have HT1 := Lib.hid ht1; clear hw1 ht1)
    go_ret2
    exact ⟨_, rfl, World.ownsRow_nil _ _ _ _, wound_step0 HA.out HFF.out HW1.out HT1.out⟩

theorem wread_go {α : Type} {X X' : Wnd} {ins : Int} {r : List α × Int} (h : X.struck false = (X', 0, ins)) : wread X r = (X', r.1, r.2) := by unfold wread; rw [h]; exact if_pos rfl
theorem wread_no {α : Type} {X X' : Wnd} {ins z : Int} {r : List α × Int} (h : X.struck false = (X', z, ins)) (hz : z ≠ 0) : wread X r = (X', [], z) := by unfold wread; rw [h]; exact if_neg hz
theorem dk_read {w w1 W w' : World} {q p : Nat} {X : Wnd} {S : Drv} {F : Nat → Prop} (h : DK w1 q p X S (grow F w w1)) (ht1 : Touch F w w1) (hb : Below w1.heap.size w1 W) (hb2 : Below W.heap.size W w') : DK w' q p X S (grow F w w') ∧ Touch F w w' := by
  have h1 := ht1.size
  have h2 := hb.size
  have h3 := hb2.size
  refine ⟨((h.below hb).below hb2).mono fun k hk => ?_, (ht1.then_ (Touch.of_below hb)).then_ (Touch.of_below hb2)⟩
  rcases hk with hk | hk
  · exact .inl hk
  · exact .inr (by omega)
set_option maxRecDepth 100000 in
set_option maxHeartbeats 4000000 in
theorem dread_any (q p : Nat) (X : Wnd) (S : Drv) (F : Nat → Prop) (s : Nm) (w : World) (hs : s.length ≤ maxLen) (hd : DK w q p X S F) (hX : X.Ok) (hS : MOk S) :
    Calls Tryz.prog 72 #[.pointer (some ⟨q, 0, none⟩), .string ⟨s.toArray⟩] w fun e w' => ∃ v, e = .returned (.tuple #[v, .int .i64 (wread X (S.read s)).2.2]) ∧ w'.ownsRow w.heap.size 5 1 v (wread X (S.read s)).2.1.length ((wread X (S.read s)).2.1.map B8) ∧ DK w' q p (wread X (S.read s)).1 S (grow F w w') ∧ Touch F w w' := by
  have HASK := Lib.hid (dask_any q p X S F 3 0 (by decide) (by decide) hX w hd)
  have HOK := Lib.hid hS
  rw [show gmay 3 = false from rfl] at HASK
  obtain ⟨X', z, ins, hst⟩ : ∃ X' z ins, X.struck false = (X', z, ins) := ⟨_, _, _, rfl⟩
  obtain ⟨by_, hby⟩ : ∃ b, b = askB 3 ins 0 := ⟨_, rfl⟩
  by_cases hz : z = 0
  · subst hz
    rw [wread_go hst]
    rw [hst] at HASK
    simp only at HASK ⊢
    rw [← hby] at HASK
    clear hd hX hS hst hby
    unfold ansV at HASK
    go_enter Tryz.func72, Tryz.ntmps72
    go_wp2_with (first
      | (go_at_call 106; refine HASK.out.mono ?_; rintro e w1 ⟨rfl, hd1, ht1⟩; obtain ⟨y0, hq1⟩ := hd1.head; have hsz1 := ht1.size; have HD1 := Lib.hid hd1; have HT1 := Lib.hid ht1; obtain ⟨FG, FM, hk, hf⟩ := dk_mid hd1 (.cells #[.bool (0 == 0), .int .i64 by_, .int .i64 0] 178); have HMD := Lib.hid hk.md; clear hd1 ht1 hk hf)
      | (go_at_call 107; refine (mread_any p S FM s _ hs HMD.out HOK.out).mono ?_; rintro e w2 ⟨v, rfl, ho, hb⟩; have HO := Lib.hid ho; have HB := Lib.hid hb; clear ho hb))
    go_ret2
    exact ⟨v, rfl, ownsRow_base_a HO.out (by simp; omega), dk_read HD1.out HT1.out ((Below.refl _ w1).alloc (Nat.le_refl _) _) HB.out⟩
  · rw [wread_no hst hz]
    rw [hst] at HASK
    simp only at HASK ⊢
    have hb : (z == 0) = false := by simpa using hz
    rw [hb] at HASK
    rw [← hby] at HASK
    clear hd hX hS hst hby hb hz
    unfold ansV at HASK
    go_enter Tryz.func72, Tryz.ntmps72
    go_wp2_with (go_at_call 106; refine HASK.out.mono ?_; rintro e w1 ⟨rfl, hd1, ht1⟩; obtain ⟨y0, hq1⟩ := hd1.head; have HD1 := Lib.hid hd1; have HT1 := Lib.hid ht1; clear hd1 ht1)
    go_quiet (fail)
    refine exit_world fun V hV => ?_
    have HBV : Hid (Below w1.heap.size w1 V) := Lib.hid (by rw [hV]; exact below_drewN ((Below.refl _ w1).alloc (Nat.le_refl _) _) _)
    clear hV
    go_wp2
    go_ret2
    exact ⟨_, rfl, World.ownsRow_nil _ _ _ _, dk_read HD1.out HT1.out HBV.out (Below.refl _ _)⟩
set_option maxRecDepth 100000 in
set_option maxHeartbeats 4000000 in
theorem dlist_any (q p : Nat) (X : Wnd) (S : Drv) (F : Nat → Prop)  (w : World)  (hd : DK w q p X S F) (hX : X.Ok) (hS : MOk S) :
    Calls Tryz.prog 73 #[.pointer (some ⟨q, 0, none⟩)] w fun e w' => ∃ v, e = .returned (.tuple #[v, .int .i64 (wread X (dnames S.now, (0 : Int))).2.2]) ∧ w'.ownsRow w.heap.size 9 1 v (wread X (dnames S.now, (0 : Int))).2.1.length ((wread X (dnames S.now, (0 : Int))).2.1.map strV) ∧ DK w' q p (wread X (dnames S.now, (0 : Int))).1 S (grow F w w') ∧ Touch F w w' := by
  have HASK := Lib.hid (dask_any q p X S F 3 0 (by decide) (by decide) hX w hd)
  have HOK := Lib.hid hS
  rw [show gmay 3 = false from rfl] at HASK
  obtain ⟨X', z, ins, hst⟩ : ∃ X' z ins, X.struck false = (X', z, ins) := ⟨_, _, _, rfl⟩
  obtain ⟨by_, hby⟩ : ∃ b, b = askB 3 ins 0 := ⟨_, rfl⟩
  by_cases hz : z = 0
  · subst hz
    rw [wread_go hst]
    rw [hst] at HASK
    simp only at HASK ⊢
    rw [← hby] at HASK
    clear hd hX hS hst hby
    unfold ansV at HASK
    go_enter Tryz.func73, Tryz.ntmps73
    go_wp2_with (first
      | (go_at_call 106; refine HASK.out.mono ?_; rintro e w1 ⟨rfl, hd1, ht1⟩; obtain ⟨y0, hq1⟩ := hd1.head; have hsz1 := ht1.size; have HD1 := Lib.hid hd1; have HT1 := Lib.hid ht1; obtain ⟨FG, FM, hk, hf⟩ := dk_mid hd1 (.cells #[.bool (0 == 0), .int .i64 by_, .int .i64 0] 178); have HMD := Lib.hid hk.md; clear hd1 ht1 hk hf)
      | (go_at_call 108; refine (mlist_any p S FM _ HMD.out HOK.out.snow).mono ?_; rintro e w2 ⟨v, rfl, ho, hb⟩; have HO := Lib.hid ho; have HB := Lib.hid hb; clear ho hb))
    go_ret2
    exact ⟨v, rfl, ownsRow_base_a HO.out (by simp; omega), dk_read HD1.out HT1.out ((Below.refl _ w1).alloc (Nat.le_refl _) _) HB.out⟩
  · rw [wread_no hst hz]
    rw [hst] at HASK
    simp only at HASK ⊢
    have hb : (z == 0) = false := by simpa using hz
    rw [hb] at HASK
    rw [← hby] at HASK
    clear hd hX hS hst hby hb hz
    unfold ansV at HASK
    go_enter Tryz.func73, Tryz.ntmps73
    go_wp2_with (go_at_call 106; refine HASK.out.mono ?_; rintro e w1 ⟨rfl, hd1, ht1⟩; obtain ⟨y0, hq1⟩ := hd1.head; have HD1 := Lib.hid hd1; have HT1 := Lib.hid ht1; clear hd1 ht1)
    go_quiet (fail)
    refine exit_world fun V hV => ?_
    have HBV : Hid (Below w1.heap.size w1 V) := Lib.hid (by rw [hV]; exact below_drewN ((Below.refl _ w1).alloc (Nat.le_refl _) _) _)
    clear hV
    go_wp2
    go_ret2
    exact ⟨_, rfl, World.ownsRow_nil _ _ _ _, dk_read HD1.out HT1.out HBV.out (Below.refl _ _)⟩
end Go.Proofs.YtdmcjomcbhdcbaaGreat

/- Contracts of the drive: Remove, Rename, Sync, SyncDir. -/
import Derived.Test.YtdmcjomcbhdcbaaDh
namespace Go.Proofs.Ytdmcjomcbhdcbaa
open Go.RowKit Go.Maps

theorem strV_bytes (s : ByteArray) : strV s.data.toList = .string s := rfl

/-- A change handed in by a new block. -/
theorem change_new (p : Nat) (S : Drv) (addr : List Nat) (F : Nat → Prop) (c : List Stp) (w : World) (cs : Array Value) (hcs : (chgCells addr c).toArray = cs) (hd : DrA w p S addr F) (hS : S.Small) (hok : okC addr c) (hc : c.length ≤ 4) :
    Calls Try.prog 75 #[.pointer (some ⟨p, 0, none⟩), .slice (some ⟨w.heap.size, 0, none⟩) c.length c.length] (w.alloc (.cells cs 122)) fun e w' =>
      e = .returned (.tuple #[]) ∧ Dr w' p (S.change c) (grow F w w') ∧ Touch F w w' := by
  have hT : Touch F w (w.alloc (.cells cs 122)) := Touch.alloc _ _
  have hd1 : DrA (w.alloc (.cells cs 122)) p S addr (grow F w (w.alloc (.cells cs 122))) :=
    (hd.keep (G := fun _ => False) (.of_below ((Below.refl _ _).alloc (Nat.le_refl _) _)) (fun _ _ h => h)).mono fun k h => .inl h
  have hb : Blk (w.alloc (.cells cs 122)) w.heap.size 122 (chgCells addr c).toArray := by rw [hcs]; exact Blk.new _ _ _
  refine (change_any p w.heap.size S addr _ c _ hd1 hb (.inr ⟨Nat.le_refl _, by simp⟩) hok hc hS.len hS.used hS.now hS.pend).mono ?_
  rintro e w' ⟨he, hd2, ht2⟩
  exact ⟨he, ⟨_, hd2.mono fun k h => (grow_trans hT.size ht2.size k).1 h⟩, hT.trans ht2⟩

set_option maxRecDepth 100000 in
theorem remove_any (p : Nat) (S : Drv) (F : Nat → Prop) (s : ByteArray) (w : World) (hs : s.size ≤ maxLen) (hd : Dr w p S F) (hS : S.Small) :
    Calls Try.prog 56 #[.pointer (some ⟨p, 0, none⟩), .string s] w fun e w' =>
      e = .returned (.int .i64 (S.remove s.data.toList).2) ∧ Dr w' p (S.remove s.data.toList).1 (grow F w w') ∧ Touch F w w' := by
  obtain ⟨addr, hd⟩ := hd
  have HF := Lib.hid (find_any p S addr F s w hs hd)
  have HD := Lib.hid hd
  rcases find_cases S s.data.toList with ⟨hf, he⟩ | ⟨i, hf, hg⟩
  · obtain ⟨x, hx⟩ : ∃ x, x = (S.find s.data.toList).2 := ⟨_, rfl⟩
    rw [← hx] at hf he
    have HR : Hid (S.remove s.data.toList = (S, x)) := by unfold Drv.remove; rw [hf]; exact rfl
    rw [hf] at HF
    simp only [ptrO] at HF
    have hne : (x == 0) = false := by rcases he with rfl | rfl <;> rfl
    clear hd hx hf he hS
    rw [HR.out]
    go_enter Try.func56, Try.ntmps56
    go_wp2_with (go_at_call 70; refine HF.out.mono ?_; rintro e w' ⟨rfl, rfl⟩)
    go_ret
    exact ⟨rfl, ⟨_, HD.out.mono fun k h => .inl h⟩, Touch.refl _ _⟩
  · have HR : Hid (S.remove s.data.toList = (S.change [(s.data.toList, none)], 0)) := by unfold Drv.remove; rw [hf]; exact rfl
    rw [hf] at HF
    simp only [ptrO] at HF
    have HC := Lib.hid (change_new p S addr F [(s.data.toList, none)] w #[.string s, .pointer none] rfl hd hS (by intro x hx; simp at hx; subst hx; exact ⟨by rw [len_size]; exact hs, fun i hi => by cases hi⟩) (by simp))
    clear hd hf hg hS
    rw [HR.out]
    go_enter Try.func56, Try.ntmps56
    go_wp2_with (first
      | (go_at_call 70; refine HF.out.mono ?_; rintro e w' ⟨rfl, rfl⟩)
      | (go_at_call 75; refine HC.out.mono ?_; rintro e w3 ⟨rfl, hd3, ht3⟩; have HD3 := Lib.hid hd3; have HT3 := Lib.hid ht3; clear hd3 ht3))
    go_ret
    exact ⟨rfl, HD3.out, HT3.out⟩

set_option maxRecDepth 100000 in
theorem rename_any (p : Nat) (S : Drv) (F : Nat → Prop) (s t : ByteArray) (w : World) (hs : s.size ≤ maxLen) (ht : t.size ≤ maxLen) (hd : Dr w p S F) (hS : S.Small) :
    Calls Try.prog 55 #[.pointer (some ⟨p, 0, none⟩), .string s, .string t] w fun e w' =>
      e = .returned (.int .i64 (S.rename s.data.toList t.data.toList).2) ∧ Dr w' p (S.rename s.data.toList t.data.toList).1 (grow F w w') ∧ Touch F w w' := by
  obtain ⟨addr, hd⟩ := hd
  have HF := Lib.hid (find_any p S addr F s w hs hd)
  have HN1 := Lib.hid (fun W => named_any s W hs)
  have HN2 := Lib.hid (fun W => named_any t W ht)
  have HD := Lib.hid hd
  by_cases hnn : named s.data.toList = true ∧ named t.data.toList = false
  · have HR : Hid (S.rename s.data.toList t.data.toList = (S, 91)) := by unfold Drv.rename; rw [if_pos hnn]; exact rfl
    obtain ⟨hn1, hn2⟩ := hnn
    clear hd hS
    rw [HR.out]
    go_enter Try.func55, Try.ntmps55
    go_wp2_with fail
    refine (HN1.out _).mono ?_
    rintro e w' ⟨rfl, rfl⟩
    rw [hn1]
    go_wp2_with fail
    refine (HN2.out _).mono ?_
    rintro e w' ⟨rfl, rfl⟩
    rw [hn2]
    go_wp2
    go_ret
    exact ⟨rfl, ⟨_, HD.out.mono fun k h => .inl h⟩, Touch.refl _ _⟩
  · rcases find_cases S s.data.toList with ⟨hf, he⟩ | ⟨i, hf, hg⟩
    · obtain ⟨x, hx⟩ : ∃ x, x = (S.find s.data.toList).2 := ⟨_, rfl⟩
      rw [← hx] at hf he
      have HR : Hid (S.rename s.data.toList t.data.toList = (S, x)) := by unfold Drv.rename; rw [if_neg hnn, hf]; exact rfl
      rw [hf] at HF
      simp only [ptrO] at HF
      have hne : (x != 0) = true := by rcases he with rfl | rfl <;> rfl
      rw [HR.out]
      clear hd hx hf he hS
      by_cases hn1 : named s.data.toList = true
      · have hn2 : named t.data.toList = true := by
          cases h : named t.data.toList with
          | true => rfl
          | false => exact absurd ⟨hn1, h⟩ hnn
        clear hnn
        go_enter Try.func55, Try.ntmps55
        go_wp2_with fail
        refine (HN1.out _).mono ?_
        rintro e w' ⟨rfl, rfl⟩
        rw [hn1]
        go_wp2_with fail
        refine (HN2.out _).mono ?_
        rintro e w' ⟨rfl, rfl⟩
        rw [hn2]
        go_wp2_with (go_at_call 70; refine HF.out.mono ?_; rintro e w' ⟨rfl, rfl⟩)
        go_ret
        exact ⟨rfl, ⟨_, HD.out.mono fun k h => .inl h⟩, Touch.refl _ _⟩
      · have hn1' : named s.data.toList = false := by simpa using hn1
        clear hnn hn1
        go_enter Try.func55, Try.ntmps55
        go_wp2_with fail
        refine (HN1.out _).mono ?_
        rintro e w' ⟨rfl, rfl⟩
        rw [hn1']
        go_wp2_with (go_at_call 70; refine HF.out.mono ?_; rintro e w' ⟨rfl, rfl⟩)
        go_ret
        exact ⟨rfl, ⟨_, HD.out.mono fun k h => .inl h⟩, Touch.refl _ _⟩
    · have hn1 : named s.data.toList = true := by
        cases h : named s.data.toList with
        | true => rfl
        | false => unfold Drv.find at hf; rw [if_pos h] at hf; cases hf
      have hn2 : named t.data.toList = true := by
        cases h : named t.data.toList with
        | true => rfl
        | false => exact absurd ⟨hn1, h⟩ hnn
      rw [hf] at HF
      simp only [ptrO] at HF
      by_cases hst : s.data.toList = t.data.toList
      · have HR : Hid (S.rename s.data.toList t.data.toList = (S, 0)) := by unfold Drv.rename; rw [if_neg hnn, hf]; simp only; rw [if_pos hst]; exact rfl
        rw [HR.out]
        have heqs : (s.toList == t.toList) = true := by
          rw [beq_iff_eq, ByteArray.toList_eq, ByteArray.toList_eq]; exact hst
        have heqn : (s.toList != t.toList) = false := by rw [bne, heqs]; rfl
        have HST := Lib.hid hst
        clear hd hf hg hS hnn hst
        go_enter Try.func55, Try.ntmps55
        go_wp2_with fail
        refine (HN1.out _).mono ?_
        rintro e w' ⟨rfl, rfl⟩
        rw [hn1]
        go_wp2_with fail
        refine (HN2.out _).mono ?_
        rintro e w' ⟨rfl, rfl⟩
        rw [hn2]
        go_wp2_with (go_at_call 70; refine HF.out.mono ?_; rintro e w' ⟨rfl, rfl⟩)
        go_ret
        exact ⟨rfl, ⟨_, HD.out.mono fun k h => .inl h⟩, Touch.refl _ _⟩
      · have HR : Hid (S.rename s.data.toList t.data.toList = (S.change [(s.data.toList, none), (t.data.toList, some i)], 0)) := by unfold Drv.rename; rw [if_neg hnn, hf]; simp only; rw [if_neg hst]; exact rfl
        rw [HR.out]
        have heqs : (s.toList == t.toList) = false := by
          rw [beq_eq_false_iff_ne, ByteArray.toList_eq, ByteArray.toList_eq]; exact hst
        have heqn : (s.toList != t.toList) = true := by rw [bne, heqs]; rfl
        have hia : i < addr.length := by
          obtain ⟨L, rfl, hD, _⟩ := hd
          exact hD.now.dget_lt _ (by rw [len_size]; exact hs) hg
        have HC := Lib.hid (change_new p S addr F [(s.data.toList, none), (t.data.toList, some i)] w #[.string s, .pointer none, .string t, .pointer (some ⟨adrOf addr i, 0, none⟩)] rfl hd hS
          (by intro x hx; simp at hx; rcases hx with rfl | rfl; exact ⟨by rw [len_size]; exact hs, fun i hi => by cases hi⟩; exact ⟨by rw [len_size]; exact ht, fun j hj => by injection hj with hj; subst hj; exact hia⟩) (by simp))
        clear hd hf hg hS hnn hst hia
        go_enter Try.func55, Try.ntmps55
        go_wp2_with fail
        refine (HN1.out _).mono ?_
        rintro e w' ⟨rfl, rfl⟩
        rw [hn1]
        go_wp2_with fail
        refine (HN2.out _).mono ?_
        rintro e w' ⟨rfl, rfl⟩
        rw [hn2]
        go_wp2_with (first
          | (go_at_call 70; refine HF.out.mono ?_; rintro e w' ⟨rfl, rfl⟩)
          | (go_at_call 75; refine HC.out.mono ?_; rintro e w3 ⟨rfl, hd3, ht3⟩; have HD3 := Lib.hid hd3; have HT3 := Lib.hid ht3; clear hd3 ht3))
        go_ret
        exact ⟨rfl, HD3.out, HT3.out⟩

theorem sync_any (p : Nat) (S : Drv) (F : Nat → Prop) (s : ByteArray) (w : World) (hs : s.size ≤ maxLen) (hd : Dr w p S F) (hS : S.Small) :
    Calls Try.prog 54 #[.pointer (some ⟨p, 0, none⟩), .string s] w fun e w' =>
      e = .returned (.int .i64 (S.sync s.data.toList).2) ∧ Dr w' p (S.sync s.data.toList).1 (grow F w w') ∧ Touch F w w' := by
  obtain ⟨addr, hd⟩ := hd
  have HF := Lib.hid (find_any p S addr F s w hs hd)
  have HD := Lib.hid hd
  rcases find_cases S s.data.toList with ⟨hf, he⟩ | ⟨i, hf, hg⟩
  · obtain ⟨x, hx⟩ : ∃ x, x = (S.find s.data.toList).2 := ⟨_, rfl⟩
    rw [← hx] at hf he
    have HR : Hid (S.sync s.data.toList = (S, x)) := by unfold Drv.sync; rw [hf]; exact rfl
    rw [hf] at HF
    simp only [ptrO] at HF
    have hne : (x == 0) = false := by rcases he with rfl | rfl <;> rfl
    clear hd hx hf he hS
    rw [HR.out]
    go_enter Try.func54, Try.ntmps54
    go_wp2_with (go_at_call 70; refine HF.out.mono ?_; rintro e w' ⟨rfl, rfl⟩)
    go_ret
    exact ⟨rfl, ⟨_, HD.out.mono fun k h => .inl h⟩, Touch.refl _ _⟩
  · have HR : Hid (S.sync s.data.toList = (S.setBody i ⟨(S.body i).data, S.len i⟩, 0)) := by unfold Drv.sync; rw [hf]; exact rfl
    rw [hf] at HF
    simp only [ptrO] at HF
    obtain ⟨L, rfl, hD, hFo⟩ := hd
    have hil : i < S.bodies.length := by rw [← hD.la]; exact hD.now.dget_lt _ (by rw [len_size]; exact hs) hg
    obtain ⟨a, c, hv, _⟩ := own_shape (hD.data i hil)
    have hc : w.cell? ⟨adrOf L.addr i, 0, none⟩ = some (.slice a (S.len i) c) := by have := (hD.body i hil).cell 0; rw [hv] at this; exact this
    have hc1 : w.cell? ⟨adrOf L.addr i, 1, none⟩ = some (.int .i64 (S.body i).safe) := (hD.body i hil).cell 1
    have hc1f : w.frozen? ⟨adrOf L.addr i, 1, none⟩ = false := (hD.body i hil).frozen 1
    have HS1 := Lib.hid (hD.setSafe hil (S.len i))
    have hlen := hS.len i
    have hFi : F (adrOf L.addr i) := hFo _ (.inr (.inr (.inr (.inl (getD_mem 0 (by rw [hD.la]; exact hil))))))
    clear hD hv hf hg hS
    rw [HR.out]
    go_enter Try.func54, Try.ntmps54
    go_wp2_with (go_at_call 70; refine HF.out.mono ?_; rintro e w' ⟨rfl, rfl⟩)
    go_ret
    exact ⟨rfl, ⟨_, L, rfl, HS1.out, fun k h => .inl (hFo k h)⟩, Touch.setCell _ _ _ hFi⟩

theorem syncDir_any (p : Nat) (S : Drv) (F : Nat → Prop) (w : World) (hd : Dr w p S F) :
    Calls Try.prog 57 #[.pointer (some ⟨p, 0, none⟩)] w fun e w' =>
      e = .returned (.int .i64 0) ∧ Dr w' p S.syncDir (grow F w w') ∧ Touch F w w' := by
  obtain ⟨addr, L, rfl, hD, hF⟩ := hd
  have h2 : w.cell? ⟨p, 2, none⟩ = some (.map (some L.nowM)) := hD.head.cell 2
  obtain ⟨es, clock, hb, Ft, hsz, hDD⟩ := hD.now
  have HC := Lib.hid (AnyW.maps_Clone Try.cloneM L.nowM es clock w hb)
  have hD1 := hD.keep (w' := w.alloc (.map es clock)) fun k hk => Below.heap_alloc _ _ k (hD.foot_lt hk)
  have hm : DirAt (w.alloc (.map es clock)) L.addr w.heap.size S.now := ⟨es, clock, (MapKept.heap_alloc w _).1, Ft, hsz, hDD⟩
  have hne : L.nowM ≠ w.heap.size := Nat.ne_of_lt hD.now.lt
  have t1 : Touch F w (w.alloc (.map es clock)) := Touch.alloc _ _
  have hsz1 : (w.alloc (.map es clock)).heap.size = w.heap.size + 1 := by simp
  have HD1 := Lib.hid hD1
  have HM := Lib.hid hm
  have HT := Lib.hid t1
  have HF := Lib.hid hF
  have HSZ := Lib.hid hsz1
  clear hD hb Ft hsz hDD hD1 hm t1 hF hsz1
  go_enter Try.func57, Try.ntmps57
  go_wp2_with (go_at_call 77; refine HC.out.mono ?_; rintro e w1 ⟨rfl, hw1⟩; have HD2 := Lib.hid (hw1.symm ▸ HD1.out); have HM2 := Lib.hid (hw1.symm ▸ HM.out); have HT2 := Lib.hid (hw1.symm ▸ HT.out); have HS2 := Lib.hid (hw1.symm ▸ HSZ.out); clear hw1; have h3f : w1.frozen? ⟨p, 3, none⟩ = false := HD2.out.head.frozen 3; have h4f : w1.frozen? ⟨p, 4, none⟩ = false := HD2.out.head.frozen 4; have h3 : w1.cell? ⟨p, 3, none⟩ = some (.map (some L.keptM)) := HD2.out.head.cell 3; have h4 : w1.cell? ⟨p, 4, none⟩ = some L.pv := HD2.out.head.cell 4)
  go_ret
  have hF := HF.out
  refine ⟨rfl, ⟨_, _, rfl, HD2.out.setKept HM2.out hne, ?_⟩, ?_⟩
  · rintro k (h | h | h | h | h | h | h)
    · exact .inl (hF _ (.inl h))
    · exact .inl (hF _ (.inr (.inl h)))
    · refine .inr ⟨by rw [h]; exact Nat.le_refl _, ?_⟩
      rw [h]; simp [World.setCell, HS2.out]
    · exact .inl (hF _ (.inr (.inr (.inr (.inl h)))))
    · exact .inl (hF _ (.inr (.inr (.inr (.inr (.inl h))))))
    · simp [Value.ownBlock] at h
    · cases h
  · exact (HT2.out.trans (Touch.setCell _ ⟨p, 3, none⟩ (.map (some w.heap.size)) (Or.inl (hF _ (Or.inl rfl))))).trans (Touch.setCell _ ⟨p, 4, none⟩ _ (Or.inl (hF _ (Or.inl rfl))))
end Go.Proofs.Ytdmcjomcbhdcbaa

/- Contracts of the drive: Create, Remove, Rename, Sync, SyncDir, Append.; Contracts of the drive: Remove, Rename, Sync, SyncDir.; Contracts of the drive: Append. -/
import Derived.Test.YtcbebefdbdppdaaGreatM5
namespace Go.Proofs.YtcbebefdbdppdaaGreat
open Go.RowKit Go.Maps
structure Drv.Small (S : Drv) : Prop where
  len : ∀ i, S.len i ≤ 2147483648
  used : -1152921504606846976 ≤ S.used ∧ S.used ≤ 1152921504606846976
  now : size S.now ≤ 2199023254000
  kept : size S.kept ≤ 2199023254000
  pend : S.pending.length ≤ 2199023254000
  room : 0 ≤ (S.room : Int) ∧ (S.room : Int) ≤ 1073741824
  safe : ∀ i, (S.body i).safe ≤ 2147483648
  pos : 0 ≤ S.used
set_option maxRecDepth 100000 in
set_option maxHeartbeats 1000000 in
theorem create_any (p : Nat) (S : Drv) (F : Nat → Prop) (s : ByteArray) (w : World) (hs : s.size ≤ maxLen) (hd : Dr w p S F) (hS : S.Small) :
    Calls Tryz.prog 264 #[.pointer (some ⟨p, 0, none⟩), .string s] w fun e w' =>
      e = .returned (.int .i64 (S.create s.data.toList).2) ∧ Dr w' p (S.create s.data.toList).1 (grow F w w') ∧ Touch F w w' := by
  obtain ⟨addr, hd⟩ := hd
  have HD := Lib.hid hd
  obtain ⟨L, rfl, hD, hF⟩ := hd
  have h2 : w.cell? ⟨p, 2, none⟩ = some (.map (some L.nowM)) := hD.head.cell 2
  have hl := hD.now.lookup s hs
  have hlen := hD.now.len
  have HN := Lib.hid (fun W => named_any s W hs)
  have hnow := hS.now
  have HS := Lib.hid hS; clear hS
  have hbig : size S.now ≤ 9223372036854775807 := by omega
  by_cases hn : named s.data.toList = true
  · obtain ⟨W1, hW1⟩ : ∃ W, W = w.alloc (.cells #[.slice none 0 0, .int .i64 0] 151) := ⟨_, rfl⟩
    obtain ⟨W2, hW2⟩ : ∃ W, W = W1.alloc (.cells #[.string s, .pointer (some ⟨w.heap.size, 0, none⟩)] 240) := ⟨_, rfl⟩
    have hD1 := hD.addBody
    rw [← hW1] at hD1
    have hD2 := hD1.keep (w' := W2) fun k hk => by rw [hW2]; exact Below.heap_alloc _ _ k (hD1.foot_lt hk)
    have hz1 : W1.heap.size = w.heap.size + 1 := by rw [hW1]; simp
    have hz2 : W2.heap.size = w.heap.size + 2 := by rw [hW2]; simp [hz1]
    have hadr : adrOf (L.addr ++ [w.heap.size]) S.bodies.length = w.heap.size := by rw [← hD.la]; exact getD_snoc_eq
    have hB2 : Blk W2 (w.heap.size + 1) 240 (chgCells (L.addr ++ [w.heap.size]) [(s.data.toList, some S.bodies.length)]).toArray := by
      have : (chgCells (L.addr ++ [w.heap.size]) [(s.data.toList, some S.bodies.length)]).toArray = #[.string s, .pointer (some ⟨w.heap.size, 0, none⟩)] := by
        simp only [chgCells, List.flatMap_cons, List.flatMap_nil, List.append_nil, ptrO, hadr]; rfl
      rw [this, hW2, ← hz1]; exact Blk.new _ _ _
    have hF2 : ∀ k, Lay.foot { L with addr := L.addr ++ [w.heap.size], vals := L.vals ++ [.slice none 0 0] } p k → grow F w W2 k := by
      rintro k (h | h | h | h | ⟨v, h, hv⟩ | h | h)
      · exact .inl (hF _ (.inl h))
      · exact .inl (hF _ (.inr (.inl h)))
      · exact .inl (hF _ (.inr (.inr (.inl h))))
      · rcases List.mem_append.1 h with h | h
        · exact .inl (hF _ (.inr (.inr (.inr (.inl h)))))
        · simp at h; subst h; exact .inr ⟨Nat.le_refl _, by omega⟩
      · rcases List.mem_append.1 h with h | h
        · exact .inl (hF _ (.inr (.inr (.inr (.inr (.inl ⟨v, h, hv⟩))))))
        · simp at h; subst h; simp [Value.ownBlock] at hv
      · exact .inl (hF _ (.inr (.inr (.inr (.inr (.inr (.inl h)))))))
      · exact .inl (hF _ (.inr (.inr (.inr (.inr (.inr (.inr h)))))))
    have HDR : Hid (DrA W2 p { S with bodies := S.bodies ++ [⟨[], 0⟩] } (L.addr ++ [w.heap.size]) (grow F w W2)) := ⟨_, rfl, hD2, hF2⟩
    have HT2 : Hid (Touch F w W2) := by rw [hW2, hW1]; exact (Touch.alloc _ _).trans (Touch.alloc _ _)
    have hlen2 : ∀ i, Drv.len { S with bodies := S.bodies ++ [⟨[], 0⟩] } i ≤ 2147483648 := by
      intro i
      unfold Drv.len Drv.body
      by_cases hi : i < S.bodies.length
      · rw [getD_snoc_lt hi]; exact HS.out.len i
      · simp only [List.getD, List.getElem?_append_right (Nat.le_of_not_lt hi)]
        cases h : i - S.bodies.length <;> simp
    have HC2 := Lib.hid (change_any p (w.heap.size + 1) _ _ _ [(s.data.toList, some S.bodies.length)] W2 HDR.out hB2 (.inr ⟨by omega, by omega⟩)
      (by intro x hx; simp at hx; subst hx; exact ⟨by rw [len_size]; exact hs, fun i hi => by injection hi with hi; subst hi; simp [hD.la]⟩) (by simp) hlen2 HS.out.used HS.out.now HS.out.pend)
    rw [hW2, hW1] at HC2
    have HW : Hid (W2 = (w.alloc (.cells #[.slice none 0 0, .int .i64 0] 151)).alloc (.cells #[.string s, .pointer (some ⟨w.heap.size, 0, none⟩)] 240)) := by rw [hW2, hW1]; exact rfl
    clear hnow hD1 hD2 hB2 hF2 hlen2 hz1 hz2 hW1 hW2 hadr
    cases hg : dget S.now s.data.toList with
    | none =>
      rw [hg] at hl
      simp only [ptrO] at hl
      by_cases hm : 65536 ≤ size S.now
      · have HC : Hid (S.create s.data.toList = (S, 112)) := by unfold Drv.create; rw [hn, if_neg (by simp), if_pos ⟨hg, hm⟩]; exact rfl
        rw [HC.out]
        have hcmp : decide ((65536 : Int) ≤ (size S.now : Int)) = true := decide_eq_true (by omega)
        have HM := Lib.hid hm; clear hm
        clear hg hD HW HC2
        go_enter Tryz.func264, Tryz.ntmps264
        go_wp2_with (go_at_call 66; refine (HN.out _).mono ?_; rintro e w' ⟨rfl, rfl⟩; rw [hn])
        go_ret
        exact ⟨rfl, ⟨_, HD.out.mono fun k h => .inl h⟩, Touch.refl _ _⟩
      · have HC : Hid (S.create s.data.toList = (Drv.change { S with bodies := S.bodies ++ [⟨[], 0⟩] } [(s.data.toList, some S.bodies.length)], 0)) := by
          unfold Drv.create; rw [hn, if_neg (by simp), if_neg (fun h => hm h.2)]; exact rfl
        rw [HC.out]
        have hcmp : decide ((65536 : Int) ≤ (size S.now : Int)) = false := decide_eq_false (by omega)
        have HM := Lib.hid hm; clear hm
        clear hg hD
        go_enter Tryz.func264, Tryz.ntmps264
        go_wp2_with (first
          | (go_at_call 66; refine (HN.out _).mono ?_; rintro e w' ⟨rfl, rfl⟩; rw [hn])
          | (go_at_call 270; refine HC2.out.mono ?_; rintro e w3 ⟨rfl, hd3, ht3⟩; have HD3 := Lib.hid hd3; have HT3 := Lib.hid ht3; clear hd3 ht3))
        go_ret
        rw [← HW.out] at HD3 HT3
        exact ⟨rfl, ⟨_, HD3.out.mono fun k h => (grow_trans HT2.out.size HT3.out.size k).1 h⟩, HT2.out.trans HT3.out⟩
    | some i =>
      rw [hg] at hl
      simp only [ptrO] at hl
      have HC : Hid (S.create s.data.toList = (Drv.change { S with bodies := S.bodies ++ [⟨[], 0⟩] } [(s.data.toList, some S.bodies.length)], 0)) := by
        unfold Drv.create; rw [hn, if_neg (by simp), if_neg (fun h => by rw [hg] at h; cases h.1)]; exact rfl
      rw [HC.out]
      clear hg hD
      go_enter Tryz.func264, Tryz.ntmps264
      go_wp2_with (first
        | (go_at_call 66; refine (HN.out _).mono ?_; rintro e w' ⟨rfl, rfl⟩; rw [hn])
        | (go_at_call 270; refine HC2.out.mono ?_; rintro e w3 ⟨rfl, hd3, ht3⟩; have HD3 := Lib.hid hd3; have HT3 := Lib.hid ht3; clear hd3 ht3))
      go_ret
      rw [← HW.out] at HD3 HT3
      exact ⟨rfl, ⟨_, HD3.out.mono fun k h => (grow_trans HT2.out.size HT3.out.size k).1 h⟩, HT2.out.trans HT3.out⟩
  · have hn' : named s.data.toList = false := by simpa using hn
    have HC : Hid (S.create s.data.toList = (S, 91)) := by unfold Drv.create; rw [if_pos hn']; exact rfl
    rw [HC.out]
    clear hD hn
    go_enter Tryz.func264, Tryz.ntmps264
    go_wp2_with (go_at_call 66; refine (HN.out _).mono ?_; rintro e w' ⟨rfl, rfl⟩; rw [hn'])
    go_ret
    exact ⟨rfl, ⟨_, HD.out.mono fun k h => .inl h⟩, Touch.refl _ _⟩
end Go.Proofs.YtcbebefdbdppdaaGreat
namespace Go.Proofs.YtcbebefdbdppdaaGreat
open Go.RowKit Go.Maps
theorem change_new (p : Nat) (S : Drv) (addr : List Nat) (F : Nat → Prop) (c : List Stp) (w : World) (cs : Array Value) (hcs : (chgCells addr c).toArray = cs) (hd : DrA w p S addr F) (hS : S.Small) (hok : okC addr c) (hc : c.length ≤ 4) :
    Calls Tryz.prog 270 #[.pointer (some ⟨p, 0, none⟩), .slice (some ⟨w.heap.size, 0, none⟩) c.length c.length] (w.alloc (.cells cs 240)) fun e w' =>
      e = .returned (.tuple #[]) ∧ Dr w' p (S.change c) (grow F w w') ∧ Touch F w w' := by
  have hT : Touch F w (w.alloc (.cells cs 240)) := Touch.alloc _ _
  have hd1 : DrA (w.alloc (.cells cs 240)) p S addr (grow F w (w.alloc (.cells cs 240))) :=
    (hd.keep (G := fun _ => False) (.of_below ((Below.refl _ _).alloc (Nat.le_refl _) _)) (fun _ _ h => h)).mono fun k h => .inl h
  have hb : Blk (w.alloc (.cells cs 240)) w.heap.size 240 (chgCells addr c).toArray := by rw [hcs]; exact Blk.new _ _ _
  refine (change_any p w.heap.size S addr _ c _ hd1 hb (.inr ⟨Nat.le_refl _, by simp⟩) hok hc hS.len hS.used hS.now hS.pend).mono ?_
  rintro e w' ⟨he, hd2, ht2⟩
  exact ⟨he, ⟨_, hd2.mono fun k h => (grow_trans hT.size ht2.size k).1 h⟩, hT.trans ht2⟩
set_option maxRecDepth 100000 in
theorem rename_any (p : Nat) (S : Drv) (F : Nat → Prop) (s t : ByteArray) (w : World) (hs : s.size ≤ maxLen) (ht : t.size ≤ maxLen) (hd : Dr w p S F) (hS : S.Small) :
    Calls Tryz.prog 267 #[.pointer (some ⟨p, 0, none⟩), .string s, .string t] w fun e w' =>
      e = .returned (.int .i64 (S.rename s.data.toList t.data.toList).2) ∧ Dr w' p (S.rename s.data.toList t.data.toList).1 (grow F w w') ∧ Touch F w w' := by
  obtain ⟨addr, hd⟩ := hd
  have HF := Lib.hid (find_any p S addr F s w hs hd)
  have HN1 := Lib.hid (fun W => named_any s W hs)
  have HN2 := Lib.hid (fun W => named_any t W ht)
  have HD := Lib.hid hd
  by_cases hnn : named s.data.toList = true ∧ named t.data.toList = false
  · have HR : Hid (S.rename s.data.toList t.data.toList = (S, 91)) := by unfold Drv.rename; rw [if_pos hnn]; exact rfl
    obtain ⟨hn1, hn2⟩ := hnn
    clear hd hS
    rw [HR.out]
    go_enter Tryz.func267, Tryz.ntmps267
    go_wp2_with fail
    refine (HN1.out _).mono ?_
    rintro e w' ⟨rfl, rfl⟩
    rw [hn1]
    go_wp2_with fail
    refine (HN2.out _).mono ?_
    rintro e w' ⟨rfl, rfl⟩
    rw [hn2]
    go_wp2
    go_ret
    exact ⟨rfl, ⟨_, HD.out.mono fun k h => .inl h⟩, Touch.refl _ _⟩
  · rcases find_cases S s.data.toList with ⟨hf, he⟩ | ⟨i, hf, hg⟩
    · obtain ⟨x, hx⟩ : ∃ x, x = (S.find s.data.toList).2 := ⟨_, rfl⟩
      rw [← hx] at hf he
      have HR : Hid (S.rename s.data.toList t.data.toList = (S, x)) := by unfold Drv.rename; rw [if_neg hnn, hf]; exact rfl
      rw [hf] at HF
      simp only [ptrO] at HF
      have hne : (x != 0) = true := by rcases he with rfl | rfl <;> rfl
      rw [HR.out]
      clear hd hx hf he hS
      by_cases hn1 : named s.data.toList = true
      · have hn2 : named t.data.toList = true := by
          cases h : named t.data.toList with
          | true => rfl
          | false => exact absurd ⟨hn1, h⟩ hnn
        clear hnn
        go_enter Tryz.func267, Tryz.ntmps267
        go_wp2_with fail
        refine (HN1.out _).mono ?_
        rintro e w' ⟨rfl, rfl⟩
        rw [hn1]
        go_wp2_with fail
        refine (HN2.out _).mono ?_
        rintro e w' ⟨rfl, rfl⟩
        rw [hn2]
        go_wp2_with (go_at_call 67; refine HF.out.mono ?_; rintro e w' ⟨rfl, rfl⟩)
        go_ret
        exact ⟨rfl, ⟨_, HD.out.mono fun k h => .inl h⟩, Touch.refl _ _⟩
      · have hn1' : named s.data.toList = false := by simpa using hn1
        clear hnn hn1
        go_enter Tryz.func267, Tryz.ntmps267
        go_wp2_with fail
        refine (HN1.out _).mono ?_
        rintro e w' ⟨rfl, rfl⟩
        rw [hn1']
        go_wp2_with (go_at_call 67; refine HF.out.mono ?_; rintro e w' ⟨rfl, rfl⟩)
        go_ret
        exact ⟨rfl, ⟨_, HD.out.mono fun k h => .inl h⟩, Touch.refl _ _⟩
    · have hn1 : named s.data.toList = true := by
        cases h : named s.data.toList with
        | true => rfl
        | false => unfold Drv.find at hf; rw [if_pos h] at hf; cases hf
      have hn2 : named t.data.toList = true := by
        cases h : named t.data.toList with
        | true => rfl
        | false => exact absurd ⟨hn1, h⟩ hnn
      rw [hf] at HF
      simp only [ptrO] at HF
      by_cases hst : s.data.toList = t.data.toList
      · have HR : Hid (S.rename s.data.toList t.data.toList = (S, 0)) := by unfold Drv.rename; rw [if_neg hnn, hf]; simp only; rw [if_pos hst]; exact rfl
        rw [HR.out]
        have heqs : (s.toList == t.toList) = true := by
          rw [beq_iff_eq, ByteArray.toList_eq, ByteArray.toList_eq]; exact hst
        have heqn : (s.toList != t.toList) = false := by rw [bne, heqs]; rfl
        have HST := Lib.hid hst
        clear hd hf hg hS hnn hst
        go_enter Tryz.func267, Tryz.ntmps267
        go_wp2_with fail
        refine (HN1.out _).mono ?_
        rintro e w' ⟨rfl, rfl⟩
        rw [hn1]
        go_wp2_with fail
        refine (HN2.out _).mono ?_
        rintro e w' ⟨rfl, rfl⟩
        rw [hn2]
        go_wp2_with (go_at_call 67; refine HF.out.mono ?_; rintro e w' ⟨rfl, rfl⟩)
        go_ret
        exact ⟨rfl, ⟨_, HD.out.mono fun k h => .inl h⟩, Touch.refl _ _⟩
      · have HR : Hid (S.rename s.data.toList t.data.toList = (S.change [(s.data.toList, none), (t.data.toList, some i)], 0)) := by unfold Drv.rename; rw [if_neg hnn, hf]; simp only; rw [if_neg hst]; exact rfl
        rw [HR.out]
        have heqs : (s.toList == t.toList) = false := by
          rw [beq_eq_false_iff_ne, ByteArray.toList_eq, ByteArray.toList_eq]; exact hst
        have heqn : (s.toList != t.toList) = true := by rw [bne, heqs]; rfl
        have hia : i < addr.length := by
          obtain ⟨L, rfl, hD, _⟩ := hd
          exact hD.now.dget_lt _ (by rw [len_size]; exact hs) hg
        have HC := Lib.hid (change_new p S addr F [(s.data.toList, none), (t.data.toList, some i)] w #[.string s, .pointer none, .string t, .pointer (some ⟨adrOf addr i, 0, none⟩)] rfl hd hS
          (by intro x hx; simp at hx; rcases hx with rfl | rfl; exact ⟨by rw [len_size]; exact hs, fun i hi => by cases hi⟩; exact ⟨by rw [len_size]; exact ht, fun j hj => by injection hj with hj; subst hj; exact hia⟩) (by simp))
        clear hd hf hg hS hnn hst hia
        go_enter Tryz.func267, Tryz.ntmps267
        go_wp2_with fail
        refine (HN1.out _).mono ?_
        rintro e w' ⟨rfl, rfl⟩
        rw [hn1]
        go_wp2_with fail
        refine (HN2.out _).mono ?_
        rintro e w' ⟨rfl, rfl⟩
        rw [hn2]
        go_wp2_with (first
          | (go_at_call 67; refine HF.out.mono ?_; rintro e w' ⟨rfl, rfl⟩)
          | (go_at_call 270; refine HC.out.mono ?_; rintro e w3 ⟨rfl, hd3, ht3⟩; have HD3 := Lib.hid hd3; have HT3 := Lib.hid ht3; clear hd3 ht3))
        go_ret
        exact ⟨rfl, HD3.out, HT3.out⟩
theorem sync_any (p : Nat) (S : Drv) (F : Nat → Prop) (s : ByteArray) (w : World) (hs : s.size ≤ maxLen) (hd : Dr w p S F) (hS : S.Small) :
    Calls Tryz.prog 268 #[.pointer (some ⟨p, 0, none⟩), .string s] w fun e w' =>
      e = .returned (.int .i64 (S.sync s.data.toList).2) ∧ Dr w' p (S.sync s.data.toList).1 (grow F w w') ∧ Touch F w w' := by
  obtain ⟨addr, hd⟩ := hd
  have HF := Lib.hid (find_any p S addr F s w hs hd)
  have HD := Lib.hid hd
  rcases find_cases S s.data.toList with ⟨hf, he⟩ | ⟨i, hf, hg⟩
  · obtain ⟨x, hx⟩ : ∃ x, x = (S.find s.data.toList).2 := ⟨_, rfl⟩
    rw [← hx] at hf he
    have HR : Hid (S.sync s.data.toList = (S, x)) := by unfold Drv.sync; rw [hf]; exact rfl
    rw [hf] at HF
    simp only [ptrO] at HF
    have hne : (x == 0) = false := by rcases he with rfl | rfl <;> rfl
    clear hd hx hf he hS
    rw [HR.out]
    go_enter Tryz.func268, Tryz.ntmps268
    go_wp2_with (go_at_call 67; refine HF.out.mono ?_; rintro e w' ⟨rfl, rfl⟩)
    go_ret
    exact ⟨rfl, ⟨_, HD.out.mono fun k h => .inl h⟩, Touch.refl _ _⟩
  · have HR : Hid (S.sync s.data.toList = (S.setBody i ⟨(S.body i).data, S.len i⟩, 0)) := by unfold Drv.sync; rw [hf]; exact rfl
    rw [hf] at HF
    simp only [ptrO] at HF
    obtain ⟨L, rfl, hD, hFo⟩ := hd
    have hil : i < S.bodies.length := by rw [← hD.la]; exact hD.now.dget_lt _ (by rw [len_size]; exact hs) hg
    obtain ⟨a, c, hv, _⟩ := own_shape (hD.data i hil)
    have hc : w.cell? ⟨adrOf L.addr i, 0, none⟩ = some (.slice a (S.len i) c) := by have := (hD.body i hil).cell 0; rw [hv] at this; exact this
    have hc1 : w.cell? ⟨adrOf L.addr i, 1, none⟩ = some (.int .i64 (S.body i).safe) := (hD.body i hil).cell 1
    have hc1f : w.frozen? ⟨adrOf L.addr i, 1, none⟩ = false := (hD.body i hil).frozen 1
    have HS1 := Lib.hid (hD.setSafe hil (S.len i))
    have hlen := hS.len i
    have hFi : F (adrOf L.addr i) := hFo _ (.inr (.inr (.inr (.inl (getD_mem 0 (by rw [hD.la]; exact hil))))))
    clear hD hv hf hg hS
    rw [HR.out]
    go_enter Tryz.func268, Tryz.ntmps268
    go_wp2_with (go_at_call 67; refine HF.out.mono ?_; rintro e w' ⟨rfl, rfl⟩)
    go_ret
    exact ⟨rfl, ⟨_, L, rfl, HS1.out, fun k h => .inl (hFo k h)⟩, Touch.setCell _ _ _ hFi⟩
theorem syncDir_any (p : Nat) (S : Drv) (F : Nat → Prop) (w : World) (hd : Dr w p S F) :
    Calls Tryz.prog 269 #[.pointer (some ⟨p, 0, none⟩)] w fun e w' =>
      e = .returned (.int .i64 0) ∧ Dr w' p S.syncDir (grow F w w') ∧ Touch F w w' := by
  obtain ⟨addr, L, rfl, hD, hF⟩ := hd
  have h2 : w.cell? ⟨p, 2, none⟩ = some (.map (some L.nowM)) := hD.head.cell 2
  obtain ⟨es, clock, hb, Ft, hsz, hDD⟩ := hD.now
  have HC := Lib.hid (AnyW.maps_Clone Tryz.cloneM L.nowM es clock w hb)
  have hD1 := hD.keep (w' := w.alloc (.map es clock)) fun k hk => Below.heap_alloc _ _ k (hD.foot_lt hk)
  have hm : DirAt (w.alloc (.map es clock)) L.addr w.heap.size S.now := ⟨es, clock, (MapKept.heap_alloc w _).1, Ft, hsz, hDD⟩
  have hne : L.nowM ≠ w.heap.size := Nat.ne_of_lt hD.now.lt
  have t1 : Touch F w (w.alloc (.map es clock)) := Touch.alloc _ _
  have hsz1 : (w.alloc (.map es clock)).heap.size = w.heap.size + 1 := by simp
  have HD1 := Lib.hid hD1
  have HM := Lib.hid hm
  have HT := Lib.hid t1
  have HF := Lib.hid hF
  have HSZ := Lib.hid hsz1
  clear hD hb Ft hsz hDD hD1 hm t1 hF hsz1
  go_enter Tryz.func269, Tryz.ntmps269
  go_wp2_with (go_at_call 271; refine HC.out.mono ?_; rintro e w1 ⟨rfl, hw1⟩; have HD2 := Lib.hid (hw1.symm ▸ HD1.out); have HM2 := Lib.hid (hw1.symm ▸ HM.out); have HT2 := Lib.hid (hw1.symm ▸ HT.out); have HS2 := Lib.hid (hw1.symm ▸ HSZ.out); clear hw1; have h3f : w1.frozen? ⟨p, 3, none⟩ = false := HD2.out.head.frozen 3; have h4f : w1.frozen? ⟨p, 4, none⟩ = false := HD2.out.head.frozen 4; have h3 : w1.cell? ⟨p, 3, none⟩ = some (.map (some L.keptM)) := HD2.out.head.cell 3; have h4 : w1.cell? ⟨p, 4, none⟩ = some L.pv := HD2.out.head.cell 4)
  go_ret
  have hF := HF.out
  refine ⟨rfl, ⟨_, _, rfl, HD2.out.setKept HM2.out hne, ?_⟩, ?_⟩
  · rintro k (h | h | h | h | h | h | h)
    · exact .inl (hF _ (.inl h))
    · exact .inl (hF _ (.inr (.inl h)))
    · refine .inr ⟨by rw [h]; exact Nat.le_refl _, ?_⟩
      rw [h]; simp [World.setCell, HS2.out]
    · exact .inl (hF _ (.inr (.inr (.inr (.inl h)))))
    · exact .inl (hF _ (.inr (.inr (.inr (.inr (.inl h))))))
    · simp [Value.ownBlock] at h
    · cases h
  · exact (HT2.out.trans (Touch.setCell _ ⟨p, 3, none⟩ (.map (some w.heap.size)) (Or.inl (hF _ (Or.inl rfl))))).trans (Touch.setCell _ ⟨p, 4, none⟩ _ (Or.inl (hF _ (Or.inl rfl))))
end Go.Proofs.YtcbebefdbdppdaaGreat
namespace Go.Proofs.YtcbebefdbdppdaaGreat
open Go.RowKit Go.Maps
theorem byteInfo : (Tryz.prog.info? 5).map (fun i => (i.zero, i.size, i.bytes)) = some (some (.int .u8 0), 1, 1) := by kernel_rfl
set_option maxRecDepth 100000 in
set_option maxHeartbeats 1000000 in
theorem append_any (p : Nat) (S : Drv) (F : Nat → Prop) (s : ByteArray) (w : World) (hs : s.size ≤ maxLen) (hd : Dr w p S F) (hS : S.Small)
    (A : Option Addr) (c : Nat) (bs : List UInt8) (hr : Reads w w.heap.size 1 A bs.length (bs.map B8)) (hb : bs.length ≤ 140737488351232) :
    Calls Tryz.prog 263 #[.pointer (some ⟨p, 0, none⟩), .string s, .slice A bs.length c] w fun e w' =>
      e = .returned (.int .i64 (S.append s.data.toList bs).2) ∧ Dr w' p (S.append s.data.toList bs).1 (grow F w w') ∧ Touch F w w' := by
  obtain ⟨addr, hd⟩ := hd
  have HF := Lib.hid (find_any p S addr F s w hs hd)
  have HD := Lib.hid hd
  rcases find_cases S s.data.toList with ⟨hf, he⟩ | ⟨i, hf, hg⟩
  · obtain ⟨x, hx⟩ : ∃ x, x = (S.find s.data.toList).2 := ⟨_, rfl⟩
    rw [← hx] at hf he
    have HR : Hid (S.append s.data.toList bs = (S, x)) := by unfold Drv.append; rw [hf]; exact rfl
    rw [hf] at HF
    simp only [ptrO] at HF
    have hne : (x != 0) = true := by rcases he with rfl | rfl <;> rfl
    clear hd hx hf he hS hr
    rw [HR.out]
    go_enter Tryz.func263, Tryz.ntmps263
    go_wp2_with (go_at_call 67; refine HF.out.mono ?_; rintro e w' ⟨rfl, rfl⟩)
    go_ret
    exact ⟨rfl, ⟨_, HD.out.mono fun k h => .inl h⟩, Touch.refl _ _⟩
  · rw [hf] at HF
    simp only [ptrO] at HF
    obtain ⟨L, rfl, hD, hFo⟩ := hd
    have hil : i < S.bodies.length := by rw [← hD.la]; exact hD.now.dget_lt _ (by rw [len_size]; exact hs) hg
    by_cases hz : bs = []
    · have HR : Hid (S.append s.data.toList bs = (S, 0)) := by unfold Drv.append; rw [hf]; simp only; rw [if_pos hz]; exact rfl
      subst hz
      rw [HR.out]
      clear hf hg hS hr hD
      go_enter Tryz.func263, Tryz.ntmps263
      go_wp2_with (go_at_call 67; refine HF.out.mono ?_; rintro e w' ⟨rfl, rfl⟩)
      go_ret
      exact ⟨rfl, ⟨_, HD.out.mono fun k h => .inl h⟩, Touch.refl _ _⟩
    · obtain ⟨m, hm⟩ : ∃ m, m = bs.length := ⟨_, rfl⟩
      have hm0 : 0 < m := by rw [hm]; exact List.length_pos_iff.2 hz
      have hu := hS.used
      have hpos := hS.pos
      have hroom := hS.room
      have h0 : w.cell? ⟨p, 0, none⟩ = some (.int .i64 S.room) := hD.head.cell 0
      have h1 : w.cell? ⟨p, 1, none⟩ = some (.int .i64 S.used) := hD.head.cell 1
      have hne : ((m : Int) == 0) = false := by simp; omega
      rw [← hm] at hb hr ⊢
      have HM := Lib.hid hm
      by_cases hfull : (S.room : Int) < S.used + m
      · have HR : Hid (S.append s.data.toList bs = (S, 111)) := by unfold Drv.append; rw [hf]; simp only; rw [if_neg hz, if_pos (by rw [← hm]; exact hfull)]; exact rfl
        rw [HR.out]
        clear hf hg hS hr hD hz hm
        go_enter Tryz.func263, Tryz.ntmps263
        go_wp2_with (go_at_call 67; refine HF.out.mono ?_; rintro e w' ⟨rfl, rfl⟩)
        go_quiet (fail)
        go_wp2
        go_ret
        exact ⟨rfl, ⟨_, (HD.out.keep (Touch.drewN (F := fun _ => False) _ _) (fun _ _ h => h)).mono fun k h => .inl h⟩, Touch.drewN _ _⟩
      · obtain ⟨S2, hS2⟩ : ∃ S2 : Drv, S2 = { S.setBody i ⟨(S.body i).data ++ bs, (S.body i).safe⟩ with used := S.used + m } := ⟨_, rfl⟩
        have HS2 := Lib.hid hS2
        have HR : Hid (S.append s.data.toList bs = (S2, 0)) := by rw [hS2]; unfold Drv.append; rw [hf]; simp only; rw [if_neg hz, if_neg (by rw [← hm]; exact hfull), ← hm]; exact rfl
        rw [HR.out]
        have HDD := Lib.hid hD
        have HRD := Lib.hid hr
        have HFO := Lib.hid hFo
        obtain ⟨a, cc, hv, _⟩ := own_shape (hD.data i hil)
        have hlen := hS.len i
        have HV := Lib.hid hv
        clear hf hg hS hr hD hz hm hv hS2 hFo
        go_enter Tryz.func263, Tryz.ntmps263
        go_wp2_with (go_at_call 67; refine HF.out.mono ?_; rintro e w' ⟨rfl, rfl⟩)
        go_quiet (fail)
        refine exit_world fun X hX => ?_
        have HE0 : Hid (DrvAt X p S L) := by rw [hX]; exact HDD.out.keep fun _ _ => rfl
        have HT0 : Hid (Touch F w X) := by rw [hX]; exact Touch.drewN _ _
        have HR0 : Hid (Reads X X.heap.size 1 A m (bs.map B8)) := by rw [hX]; exact HRD.out.drewN _
        have x0 : X.cell? ⟨adrOf L.addr i, 0, none⟩ = some (.slice a (S.len i) cc) := by have := (HE0.out.body i hil).cell 0; rw [HV.out] at this; exact this
        have HO0 : Hid (X.ownsRow 0 5 1 (.slice a (S.len i) cc) (S.len i) ((S.body i).data.map B8)) := by have := HE0.out.data i hil; rw [HV.out] at this; exact Lib.hid this
        clear hX
        obtain ⟨i5, hi5, hz0, hz1, hz2⟩ := info_parts byteInfo
        have HB8 : Hid (∀ u ∈ bs.map B8, u.oneCell' = true) := by intro u hu; simp only [List.mem_map] at hu; obtain ⟨b, _, rfl⟩ := hu; rfl
        have hm63 : S.len i + m ≤ maxLen := by simp only [maxLen]; omega
        have HM63 := Lib.hid hm63; clear hm63
        go_wp2_with (at_builtin; (refine wpList_append_any _ rfl (.tmp 39) (.tmp 40) 46 rfl 0 5 i5 _ 1 1 Tryz.underlying46 hi5 hz0 hz1 hz2 rfl (by omega) _ (S.len i) _ rfl HO0.out X.heap.size A m c (bs.map B8) rfl HR0.out HB8.out HM63.out (by omega) (by omega) ?_); intro v1 w1 hown1 hg1 hat1; obtain ⟨a1, c1, rfl, _⟩ := own_shape hown1; go_must (have hbw : Blk w1 (adrOf L.addr i) 151 _ := (HE0.out.body i hil).grown hg1 (fun e => own_blk_ne HO0.out (HE0.out.body i hil) (by decide) e.symm); have hpw : Blk w1 p 138 _ := HE0.out.head.grown hg1 (fun e => own_blk_ne HO0.out HE0.out.head (by decide) e.symm); have y0 : w1.cell? ⟨adrOf L.addr i, 0, none⟩ = some (L.val i) := hbw.cell 0; have y0f : w1.frozen? ⟨adrOf L.addr i, 0, none⟩ = false := hbw.frozen 0; have y1 : w1.cell? ⟨p, 1, none⟩ = some (.int .i64 S.used) := hpw.cell 1; have y1f : w1.frozen? ⟨p, 1, none⟩ = false := hpw.frozen 1; have hnp : adrOf L.addr i ≠ p := hbw.ne_ hpw (by decide); have HOWN := Lib.hid hown1; have HG1 := Lib.hid hg1; have HAT := Lib.hid hat1; clear hown1 hg1 hat1 hbw hpw))
        go_ret
        have hbl : ((S.body i).data ++ bs).length = S.len i + m := by rw [List.length_append, ← HM.out]; rfl
        have hg1 := HG1.out
        have hat1 := HAT.out
        rw [← HV.out] at hg1 hat1
        have hFi : F (adrOf L.addr i) := HFO.out _ (.inr (.inr (.inr (.inl (getD_mem 0 (by rw [HE0.out.la]; exact hil))))))
        have hvm : L.val i ∈ L.vals := getD_mem _ (by rw [HE0.out.lv]; exact hil)
        have hFr : ∀ k, (L.val i).ownBlock = some k → F k := fun k hk => HFO.out _ (.inr (.inr (.inr (.inr (.inl ⟨_, hvm, hk⟩)))))
        have hD2 := HE0.out.setData hil (v := .slice a1 (S.len i + m) c1) (bs := (S.body i).data ++ bs) (by rw [hbl, List.map_append]; exact HOWN.out) hg1
          (by rcases hat1 with e | e
              · exact .inl e
              · exact .inr fun k hk => by rw [e] at hk; injection hk with hk; omega)
        have hD3 := hD2.setUsed (S.used + m)
        refine ⟨rfl, ⟨_, _, rfl, by rw [HS2.out]; exact hD3, ?_⟩, ?_⟩
        · rintro k (h | h | h | h | ⟨v, h, hv⟩ | h | h)
          · exact .inl (HFO.out _ (.inl h))
          · exact .inl (HFO.out _ (.inr (.inl h)))
          · exact .inl (HFO.out _ (.inr (.inr (.inl h))))
          · exact .inl (HFO.out _ (.inr (.inr (.inr (.inl h)))))
          · rcases List.mem_or_eq_of_mem_set h with h | h
            · exact .inl (HFO.out _ (.inr (.inr (.inr (.inr (.inl ⟨v, h, hv⟩))))))
            · subst h
              by_cases hk : k < w.heap.size
              · refine .inl ?_
                rcases hat1 with e | e
                · exact hFr _ (e.symm.trans hv)
                · exfalso; rw [e] at hv; injection hv with hv; have := HT0.out.size; omega
              · refine .inr ⟨by omega, ?_⟩
                have := (HOWN.out.lt k hv).2
                simpa [World.setCell] using this
          · exact .inl (HFO.out _ (.inr (.inr (.inr (.inr (.inr (.inl h)))))))
          · exact .inl (HFO.out _ (.inr (.inr (.inr (.inr (.inr (.inr h)))))))
        · have t1 : Touch F w w1 := HT0.out.trans (Touch.of_grown hg1 fun k hk => .inl (hFr k hk))
          have t2 := t1.trans (Touch.setCell _ ⟨adrOf L.addr i, 0, none⟩ (.slice a1 (S.len i + m) c1) (Or.inl hFi))
          exact t2.trans (Touch.setCell _ _ _ (Or.inl (HFO.out _ (Or.inl rfl))))
end Go.Proofs.YtcbebefdbdppdaaGreat

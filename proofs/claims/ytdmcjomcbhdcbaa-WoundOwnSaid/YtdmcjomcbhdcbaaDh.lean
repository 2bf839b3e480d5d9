/- Contracts of the drive: Create, Remove, Rename, Sync, SyncDir, Append. -/
import Derived.Test.YtdmcjomcbhdcbaaDg
namespace Go.Proofs.Ytdmcjomcbhdcbaa
open Go.RowKit Go.Maps

/-- What a drive is asked to be: its numbers are such that nothing wraps. -/
structure Drv.Small (S : Drv) : Prop where
  len : ∀ i, S.len i ≤ 2147483648
  used : -1152921504606846976 ≤ S.used ∧ S.used ≤ 1152921504606846976
  now : size S.now ≤ 2199023254000
  kept : size S.kept ≤ 2199023254000
  pend : S.pending.length ≤ 2199023254000
  room : 0 ≤ (S.room : Int) ∧ (S.room : Int) ≤ 1073741824
  safe : ∀ i, (S.body i).safe ≤ 2147483648
  pos : 0 ≤ S.used

theorem create_nil (s : ByteArray) (w : World) : Calls Try.prog 51 #[.pointer none, .string s] w fun e w' => e = .returned (.int .i64 1) ∧ w = w' := by
  go_enter Try.func51, Try.ntmps51
  go_wp2
  go_ret
  exact ⟨rfl, rfl⟩

set_option maxRecDepth 100000 in
set_option maxHeartbeats 1000000 in
theorem create_any (p : Nat) (S : Drv) (F : Nat → Prop) (s : ByteArray) (w : World) (hs : s.size ≤ maxLen) (hd : Dr w p S F) (hS : S.Small) :
    Calls Try.prog 51 #[.pointer (some ⟨p, 0, none⟩), .string s] w fun e w' =>
      e = .returned (.int .i64 (S.create s.data.toList).2) ∧ Dr w' p (S.create s.data.toList).1 (grow F w w') ∧ Touch F w w' := by
  obtain ⟨addr, hd⟩ := hd
  have HD := Lib.hid hd
  obtain ⟨L, rfl, hD, hF⟩ := hd
  have h2 : w.cell? ⟨p, 2, none⟩ = some (.map (some L.nowM)) := hD.head.cell 2
  have hl := hD.now.lookup s hs
  have hlen := hD.now.len
  have HN := Lib.hid (fun W => named_any s W hs)
  have hnow := hS.now
  have HS := Lib.hid hS; clear hS
  have hbig : size S.now ≤ 9223372036854775807 := by omega
  by_cases hn : named s.data.toList = true
  · obtain ⟨W1, hW1⟩ : ∃ W, W = w.alloc (.cells #[.slice none 0 0, .int .i64 0] 113) := ⟨_, rfl⟩
    obtain ⟨W2, hW2⟩ : ∃ W, W = W1.alloc (.cells #[.string s, .pointer (some ⟨w.heap.size, 0, none⟩)] 122) := ⟨_, rfl⟩
    have hD1 := hD.addBody
    rw [← hW1] at hD1
    have hD2 := hD1.keep (w' := W2) fun k hk => by rw [hW2]; exact Below.heap_alloc _ _ k (hD1.foot_lt hk)
    have hz1 : W1.heap.size = w.heap.size + 1 := by rw [hW1]; simp
    have hz2 : W2.heap.size = w.heap.size + 2 := by rw [hW2]; simp [hz1]
    have hadr : adrOf (L.addr ++ [w.heap.size]) S.bodies.length = w.heap.size := by rw [← hD.la]; exact getD_snoc_eq
    have hB2 : Blk W2 (w.heap.size + 1) 122 (chgCells (L.addr ++ [w.heap.size]) [(s.data.toList, some S.bodies.length)]).toArray := by
      have : (chgCells (L.addr ++ [w.heap.size]) [(s.data.toList, some S.bodies.length)]).toArray = #[.string s, .pointer (some ⟨w.heap.size, 0, none⟩)] := by
        simp only [chgCells, List.flatMap_cons, List.flatMap_nil, List.append_nil, ptrO, hadr]; rfl
      rw [this, hW2, ← hz1]; exact Blk.new _ _ _
    have hF2 : ∀ k, Lay.foot { L with addr := L.addr ++ [w.heap.size], vals := L.vals ++ [.slice none 0 0] } p k → grow F w W2 k := by
      rintro k (h | h | h | h | ⟨v, h, hv⟩ | h | h)
      · exact .inl (hF _ (.inl h))
      · exact .inl (hF _ (.inr (.inl h)))
      · exact .inl (hF _ (.inr (.inr (.inl h))))
      · rcases List.mem_append.1 h with h | h
        · exact .inl (hF _ (.inr (.inr (.inr (.inl h)))))
        · simp at h; subst h; exact .inr ⟨Nat.le_refl _, by omega⟩
      · rcases List.mem_append.1 h with h | h
        · exact .inl (hF _ (.inr (.inr (.inr (.inr (.inl ⟨v, h, hv⟩))))))
        · simp at h; subst h; simp [Value.ownBlock] at hv
      · exact .inl (hF _ (.inr (.inr (.inr (.inr (.inr (.inl h)))))))
      · exact .inl (hF _ (.inr (.inr (.inr (.inr (.inr (.inr h)))))))
    have HDR : Hid (DrA W2 p { S with bodies := S.bodies ++ [⟨[], 0⟩] } (L.addr ++ [w.heap.size]) (grow F w W2)) := ⟨_, rfl, hD2, hF2⟩
    have HT2 : Hid (Touch F w W2) := by rw [hW2, hW1]; exact (Touch.alloc _ _).trans (Touch.alloc _ _)
    have hlen2 : ∀ i, Drv.len { S with bodies := S.bodies ++ [⟨[], 0⟩] } i ≤ 2147483648 := by
      intro i
      unfold Drv.len Drv.body
      by_cases hi : i < S.bodies.length
      · rw [getD_snoc_lt hi]; exact HS.out.len i
      · simp only [List.getD, List.getElem?_append_right (Nat.le_of_not_lt hi)]
        cases h : i - S.bodies.length <;> simp
    have HC2 := Lib.hid (change_any p (w.heap.size + 1) _ _ _ [(s.data.toList, some S.bodies.length)] W2 HDR.out hB2 (.inr ⟨by omega, by omega⟩)
      (by intro x hx; simp at hx; subst hx; exact ⟨by rw [len_size]; exact hs, fun i hi => by injection hi with hi; subst hi; simp [hD.la]⟩) (by simp) hlen2 HS.out.used HS.out.now HS.out.pend)
    rw [hW2, hW1] at HC2
    have HW : Hid (W2 = (w.alloc (.cells #[.slice none 0 0, .int .i64 0] 113)).alloc (.cells #[.string s, .pointer (some ⟨w.heap.size, 0, none⟩)] 122)) := by rw [hW2, hW1]; exact rfl
    clear hnow hD1 hD2 hB2 hF2 hlen2 hz1 hz2 hW1 hW2 hadr
    cases hg : dget S.now s.data.toList with
    | none =>
      rw [hg] at hl
      simp only [ptrO] at hl
      by_cases hm : 65536 ≤ size S.now
      · have HC : Hid (S.create s.data.toList = (S, 112)) := by unfold Drv.create; rw [hn, if_neg (by simp), if_pos ⟨hg, hm⟩]; exact rfl
        rw [HC.out]
        have hcmp : decide ((65536 : Int) ≤ (size S.now : Int)) = true := decide_eq_true (by omega)
        have HM := Lib.hid hm; clear hm
        clear hg hD HW HC2
        go_enter Try.func51, Try.ntmps51
        go_wp2_with (go_at_call 74; refine (HN.out _).mono ?_; rintro e w' ⟨rfl, rfl⟩; rw [hn])
        go_ret
        exact ⟨rfl, ⟨_, HD.out.mono fun k h => .inl h⟩, Touch.refl _ _⟩
      · have HC : Hid (S.create s.data.toList = (Drv.change { S with bodies := S.bodies ++ [⟨[], 0⟩] } [(s.data.toList, some S.bodies.length)], 0)) := by
          unfold Drv.create; rw [hn, if_neg (by simp), if_neg (fun h => hm h.2)]; exact rfl
        rw [HC.out]
        have hcmp : decide ((65536 : Int) ≤ (size S.now : Int)) = false := decide_eq_false (by omega)
        have HM := Lib.hid hm; clear hm
        clear hg hD
        go_enter Try.func51, Try.ntmps51
        go_wp2_with (first
          | (go_at_call 74; refine (HN.out _).mono ?_; rintro e w' ⟨rfl, rfl⟩; rw [hn])
          | (go_at_call 75; refine HC2.out.mono ?_; rintro e w3 ⟨rfl, hd3, ht3⟩; have HD3 := Lib.hid hd3; have HT3 := Lib.hid ht3; clear hd3 ht3))
        go_ret
        rw [← HW.out] at HD3 HT3
        exact ⟨rfl, ⟨_, HD3.out.mono fun k h => (grow_trans HT2.out.size HT3.out.size k).1 h⟩, HT2.out.trans HT3.out⟩
    | some i =>
      rw [hg] at hl
      simp only [ptrO] at hl
      have HC : Hid (S.create s.data.toList = (Drv.change { S with bodies := S.bodies ++ [⟨[], 0⟩] } [(s.data.toList, some S.bodies.length)], 0)) := by
        unfold Drv.create; rw [hn, if_neg (by simp), if_neg (fun h => by rw [hg] at h; cases h.1)]; exact rfl
      rw [HC.out]
      clear hg hD
      go_enter Try.func51, Try.ntmps51
      go_wp2_with (first
        | (go_at_call 74; refine (HN.out _).mono ?_; rintro e w' ⟨rfl, rfl⟩; rw [hn])
        | (go_at_call 75; refine HC2.out.mono ?_; rintro e w3 ⟨rfl, hd3, ht3⟩; have HD3 := Lib.hid hd3; have HT3 := Lib.hid ht3; clear hd3 ht3))
      go_ret
      rw [← HW.out] at HD3 HT3
      exact ⟨rfl, ⟨_, HD3.out.mono fun k h => (grow_trans HT2.out.size HT3.out.size k).1 h⟩, HT2.out.trans HT3.out⟩
  · have hn' : named s.data.toList = false := by simpa using hn
    have HC : Hid (S.create s.data.toList = (S, 91)) := by unfold Drv.create; rw [if_pos hn']; exact rfl
    rw [HC.out]
    clear hD hn
    go_enter Try.func51, Try.ntmps51
    go_wp2_with (go_at_call 74; refine (HN.out _).mono ?_; rintro e w' ⟨rfl, rfl⟩; rw [hn'])
    go_ret
    exact ⟨rfl, ⟨_, HD.out.mono fun k h => .inl h⟩, Touch.refl _ _⟩
end Go.Proofs.Ytdmcjomcbhdcbaa

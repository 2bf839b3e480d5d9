/- Contracts of the drive: is a text a name; a new drive; the body of a name. -/
import Derived.Test.YtdmcjomcbhdcbaaRep2
import Derived.Deep.QuietTactic
import Derived.BigQuiet
import Derived.WalkLawsBesides
import Derived.Deep.DeepMust
namespace Go.Proofs.Ytdmcjomcbhdcbaa
open Go.RowKit Go.Maps

theorem len_size (s : ByteArray) : s.data.toList.length = s.size := by rw [Array.length_toList]; rfl
theorem ret_bool {a b : Bool} (h : a = b) : Ending.returned (.bool a) = .returned (.bool b) := by rw [h]
theorem ret_int {k : IntKind} {a b : Int} (h : a = b) : Ending.returned (.int k a) = .returned (.int k b) := by rw [h]

theorem named_any (s : ByteArray) (w : World) (hs : s.size ≤ maxLen) :
    Calls Try.prog 74 #[.string s] w fun e w' => e = .returned (.bool (named s.data.toList)) ∧ w = w' := by
  unfold maxLen at hs
  by_cases h1 : 1 ≤ s.size
  · have HN : Hid (decide ((s.size : Int) ≤ 1024) = named s.data.toList) := by
      unfold named; rw [len_size, Hid, decide_eq_decide]; omega
    go_enter Try.func74, Try.ntmps74
    go_wp2
    go_ret
    exact ⟨ret_bool HN.out, rfl⟩
  · have HN : Hid (false = named s.data.toList) := by
      unfold named; rw [len_size, Hid, decide_eq_false (fun h => h1 h.1)]
    go_enter Try.func74, Try.ntmps74
    go_wp2
    go_ret
    exact ⟨ret_bool HN.out, rfl⟩

theorem new_bad (r : Int) (w : World) (h : r < 0 ∨ 1073741824 < r) :
    Calls Try.prog 11 #[.int .i64 r] w fun e w' => e = .returned (.pointer none) ∧ w = w' := by
  rcases h with h | h
  · go_enter Try.func11, Try.ntmps11
    go_wp2
    go_ret
    exact ⟨rfl, rfl⟩
  · have h' : ¬ r < 0 := by omega
    go_enter Try.func11, Try.ntmps11
    go_wp2
    go_ret
    exact ⟨rfl, rfl⟩

theorem new_good (r : Int) (w : World) (h0 : 0 ≤ r) (h1 : r ≤ 1073741824) :
    Calls Try.prog 11 #[.int .i64 r] w fun e w' => e = .returned (.pointer (some ⟨w.heap.size + 2, 0, none⟩)) ∧
      w' = ((w.alloc (.map #[] 0)).alloc (.map #[] 0)).alloc (.cells #[.int .i64 r, .int .i64 0, .map (some w.heap.size), .map (some (w.heap.size + 1)), .slice none 0 0] 90) := by
  have hmm := @run_makeMap Try.prog
  go_enter Try.func11, Try.ntmps11
  go_wp2
  go_ret
  exact ⟨rfl, rfl⟩

/-- A new drive, in memory. -/
theorem dr_new (w : World) (r : Nat) :
    DrA (((w.alloc (.map #[] 0)).alloc (.map #[] 0)).alloc (.cells #[.int .i64 r, .int .i64 0, .map (some w.heap.size), .map (some (w.heap.size + 1)), .slice none 0 0] 90))
      (w.heap.size + 2) (Drv.new r) [] (fun k => w.heap.size ≤ k) := by
  have h1 : (w.alloc (.map #[] 0)).ownsMap Try.prog 9 (elemR []) w.heap.size 0 (.map []) := World.ownsMap_made w _ _ _
  have h2 : ((w.alloc (.map #[] 0)).alloc (.map #[] 0)).ownsMap Try.prog 9 (elemR []) (w.heap.size + 1) 0 (.map []) := by
    have := World.ownsMap_made (w.alloc (.map #[] 0)) Try.prog 9 (elemR []); simpa using this
  refine ⟨⟨w.heap.size, w.heap.size + 1, [], [], .slice none 0 0, []⟩, rfl, ⟨?_, ?_, ?_, by simp, by simp, rfl, rfl, fun i hi => absurd hi (by simp [Drv.new]), fun i hi => absurd hi (by simp [Drv.new]), fun i j hi => absurd hi (by simp [Drv.new]), ?_, rfl, fun c hc => absurd hc (by simp [Drv.new]), fun i hi => absurd hi (by simp [Drv.new])⟩, ?_⟩
  · have := Blk.new ((w.alloc (.map #[] 0)).alloc (.map #[] 0)) 90 #[.int .i64 r, .int .i64 0, .map (some w.heap.size), .map (some (w.heap.size + 1)), .slice none 0 0]
    simpa [Drv.new] using this
  · exact .of ((h1.alloc _).alloc _)
  · exact .of (h2.alloc _)
  · exact World.ownsRow_nil _ _ _ _
  · rintro k (rfl | rfl | rfl | h | ⟨v, h, _⟩ | h | h)
    · omega
    · exact Nat.le_refl _
    · show _ ≤ w.heap.size + 1; omega
    · cases h
    · cases h
    · simp [Value.ownBlock] at h
    · cases h

theorem find_nil (s : ByteArray) (w : World) :
    Calls Try.prog 70 #[.pointer none, .string s] w fun e w' => e = .returned (.tuple #[.pointer none, .int .i64 1]) ∧ w = w' := by
  go_enter Try.func70, Try.ntmps70
  go_wp2
  go_ret2
  exact ⟨rfl, rfl⟩

theorem find_any (p : Nat) (S : Drv) (addr : List Nat) (F : Nat → Prop) (s : ByteArray) (w : World) (hs : s.size ≤ maxLen) (hd : DrA w p S addr F) :
    Calls Try.prog 70 #[.pointer (some ⟨p, 0, none⟩), .string s] w fun e w' =>
      e = .returned (.tuple #[ptrO addr (S.find s.data.toList).1, .int .i64 (S.find s.data.toList).2]) ∧ w = w' := by
  obtain ⟨L, rfl, hD, _⟩ := hd
  have hl := hD.now.lookup s hs
  have hc := hD.head.cell 2
  by_cases hn : named s.data.toList = true
  · cases hg : dget S.now s.data.toList with
    | none =>
      have HF : Hid (S.find s.data.toList = (none, 110)) := by unfold Drv.find; rw [hn, hg]; exact rfl
      rw [hg] at hl
      simp only [ptrO] at hl
      rw [HF.out]
      clear hg
      go_enter Try.func70, Try.ntmps70
      go_wp2_with (go_at_call 74; refine (named_any _ _ hs).mono ?_; rintro e w' ⟨rfl, rfl⟩; rw [hn])
      go_ret2
      exact ⟨rfl, rfl⟩
    | some i =>
      have HF : Hid (S.find s.data.toList = (some i, 0)) := by unfold Drv.find; rw [hn, hg]; exact rfl
      rw [hg] at hl
      simp only [ptrO] at hl
      rw [HF.out]
      simp only [ptrO]
      clear hg
      go_enter Try.func70, Try.ntmps70
      go_wp2_with (go_at_call 74; refine (named_any _ _ hs).mono ?_; rintro e w' ⟨rfl, rfl⟩; rw [hn])
      go_ret2
      exact ⟨rfl, rfl⟩
  · have hn' : named s.data.toList = false := by simpa using hn
    have HF : Hid (S.find s.data.toList = (none, 91)) := by unfold Drv.find; rw [hn']; exact rfl
    rw [HF.out]
    simp only [ptrO]
    clear hn
    go_enter Try.func70, Try.ntmps70
    go_wp2_with (go_at_call 74; refine (named_any _ _ hs).mono ?_; rintro e w' ⟨rfl, rfl⟩; rw [hn'])
    go_ret2
    exact ⟨rfl, rfl⟩
end Go.Proofs.Ytdmcjomcbhdcbaa

/- Contracts of the drive: Read, Loose, Sync, SyncDir, and calls on a drive that is not there. -/
import Derived.Test.YtdmcjomcbhdcbaaDe
import Derived.Test.YtdmcjomcbhdcbaaDc
namespace Go.Proofs.Ytdmcjomcbhdcbaa
open Go.RowKit Go.Maps

theorem find_cases (S : Drv) (s : Nm) : (S.find s = (none, (S.find s).2) ∧ ((S.find s).2 = 91 ∨ (S.find s).2 = 110)) ∨ ∃ i, S.find s = (some i, 0) ∧ dget S.now s = some i := by
  unfold Drv.find
  split
  · exact .inl ⟨rfl, .inl rfl⟩
  · split
    · rename_i i h; exact .inr ⟨i, rfl, h⟩
    · exact .inl ⟨rfl, .inr rfl⟩

/-- A row of the call's own reads as a list. -/
theorem reads_own {w : World} {base : Nat} {e : TypeId} {v : Value} {n : Nat} {xs : List Value} {a : Option Addr} {c : Nat} (hv : v = .slice a n c) (h : w.ownsRow base e 1 v n xs) : Reads w w.heap.size 1 a n xs := by
  subst hv; exact Reads.of_own h

theorem read_nil (s : ByteArray) (w : World) : Calls Try.prog 52 #[.pointer none, .string s] w fun e w' => e = .returned (.tuple #[.slice none 0 0, .int .i64 1]) ∧ w = w' := by
  go_enter Try.func52, Try.ntmps52
  go_wp2_with (go_at_call 70; refine (find_nil _ _).mono ?_; rintro e w' ⟨rfl, rfl⟩)
  go_ret2
  exact ⟨rfl, rfl⟩

theorem read_any (p : Nat) (S : Drv) (addr : List Nat) (F : Nat → Prop) (s : ByteArray) (w : World) (hs : s.size ≤ maxLen) (hd : DrA w p S addr F) (hl : ∀ i, S.len i ≤ 2147483648) :
    Calls Try.prog 52 #[.pointer (some ⟨p, 0, none⟩), .string s] w fun e w' =>
      ∃ v, e = .returned (.tuple #[v, .int .i64 (S.read s.data.toList).2]) ∧ w'.ownsRow w.heap.size 5 1 v (S.read s.data.toList).1.length ((S.read s.data.toList).1.map B8) ∧ Below w.heap.size w w' := by
  have HF := Lib.hid (find_any p S addr F s w hs hd)
  have HS := Lib.hid hs; clear hs
  rcases find_cases S s.data.toList with ⟨hf, he⟩ | ⟨i, hf, hg⟩
  · obtain ⟨x, hx⟩ : ∃ x, x = (S.find s.data.toList).2 := ⟨_, rfl⟩
    rw [← hx] at hf he
    have HR : Hid (S.read s.data.toList = ([], x)) := by unfold Drv.read; rw [hf]; exact rfl
    rw [hf] at HF
    simp only [ptrO] at HF
    have hne : (x != 0) = true := by rcases he with rfl | rfl <;> rfl
    clear hd hl hx hf he
    rw [HR.out]
    go_enter Try.func52, Try.ntmps52
    go_wp2_with (go_at_call 70; refine HF.out.mono ?_; rintro e w' ⟨rfl, rfl⟩)
    go_ret2
    exact ⟨_, rfl, World.ownsRow_nil _ _ _ _, Below.refl _ _⟩
  · have HR : Hid (S.read s.data.toList = ((S.body i).data, 0)) := by unfold Drv.read; rw [hf]; exact rfl
    rw [hf] at HF
    simp only [ptrO] at HF
    obtain ⟨L, rfl, hD, _⟩ := hd
    have hil : i < S.bodies.length := by rw [← hD.la]; exact hD.now.dget_lt _ (by rw [len_size]; exact HS.out) hg
    obtain ⟨a, c, hv, _⟩ := own_shape (hD.data i hil)
    have hc : w.cell? ⟨adrOf L.addr i, 0, none⟩ = some (.slice a (S.len i) c) := by have := (hD.body i hil).cell 0; rw [hv] at this; exact this
    have HRD := Lib.hid (reads_own hv (hD.data i hil))
    have hlen := hl i
    clear hD hv hf hg hl
    rw [HR.out]
    go_enter Try.func52, Try.ntmps52
    go_wp2_with (first
      | (go_at_call 70; refine HF.out.mono ?_; rintro e w' ⟨rfl, rfl⟩)
      | (go_at_call 73; refine (clone_any _ _ _ _ _ _ HRD.out (by omega)).mono ?_; rintro e w' ⟨v, rfl, ho, hb⟩; have HO := Lib.hid ho; have HB := Lib.hid hb; clear ho hb))
    go_ret2
    exact ⟨v, rfl, HO.out, HB.out⟩

theorem loose_any (p : Nat) (S : Drv) (addr : List Nat) (F : Nat → Prop) (s : ByteArray) (w : World) (hs : s.size ≤ maxLen) (hd : DrA w p S addr F) (hl : ∀ i, S.len i ≤ 2147483648) (hsf : ∀ i, (S.body i).safe ≤ 2147483648) :
    Calls Try.prog 66 #[.pointer (some ⟨p, 0, none⟩), .string s] w fun e w' =>
      e = .returned (.tuple #[.int .i64 (S.loose s.data.toList).1, .int .i64 (S.loose s.data.toList).2]) ∧ Below w.heap.size w w' := by
  have HF := Lib.hid (find_any p S addr F s w hs hd)
  have HS := Lib.hid hs; clear hs
  rcases find_cases S s.data.toList with ⟨hf, he⟩ | ⟨i, hf, hg⟩
  · obtain ⟨x, hx⟩ : ∃ x, x = (S.find s.data.toList).2 := ⟨_, rfl⟩
    rw [← hx] at hf he
    have HR : Hid (S.loose s.data.toList = (0, x)) := by unfold Drv.loose; rw [hf]; exact rfl
    rw [hf] at HF
    simp only [ptrO] at HF
    have hne : (x != 0) = true := by rcases he with rfl | rfl <;> rfl
    clear hd hl hx hf he hsf
    rw [HR.out]
    go_enter Try.func66, Try.ntmps66
    go_wp2_with (go_at_call 70; refine HF.out.mono ?_; rintro e w' ⟨rfl, rfl⟩)
    go_ret2
    exact ⟨rfl, Below.refl _ _⟩
  · have HR : Hid (S.loose s.data.toList = ((S.len i : Int) - (S.body i).safe, 0)) := by unfold Drv.loose; rw [hf]; exact rfl
    rw [hf] at HF
    simp only [ptrO] at HF
    obtain ⟨L, rfl, hD, _⟩ := hd
    have hil : i < S.bodies.length := by rw [← hD.la]; exact hD.now.dget_lt _ (by rw [len_size]; exact HS.out) hg
    obtain ⟨a, c, hv, _⟩ := own_shape (hD.data i hil)
    have hc : w.cell? ⟨adrOf L.addr i, 0, none⟩ = some (.slice a (S.len i) c) := by have := (hD.body i hil).cell 0; rw [hv] at this; exact this
    have hc1 : w.cell? ⟨adrOf L.addr i, 1, none⟩ = some (.int .i64 (S.body i).safe) := (hD.body i hil).cell 1
    have hlen := hl i
    have hsl := hsf i
    clear hD hv hf hg hl hsf
    rw [HR.out]
    go_enter Try.func66, Try.ntmps66
    go_wp2_with (go_at_call 70; refine HF.out.mono ?_; rintro e w' ⟨rfl, rfl⟩)
    go_quiet (fail)
    go_wp2
    go_ret2
    exact ⟨rfl, below_drewN (Below.refl _ _) _⟩
end Go.Proofs.Ytdmcjomcbhdcbaa

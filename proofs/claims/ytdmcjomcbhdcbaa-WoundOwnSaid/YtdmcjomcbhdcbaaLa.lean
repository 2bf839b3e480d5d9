/- The law's helpers: room, twin, files. -/
import Derived.Test.YtdmcjomcbhdcbaaWw
namespace Go.Proofs.Ytdmcjomcbhdcbaa
open Go.RowKit Go.Maps

def roomI (n : Int) : Int := n.tmod 400 % 400 + 1
theorem roomI_bd (n : Int) : 1 ≤ roomI n ∧ roomI n ≤ 400 := by
  unfold roomI
  omega

theorem room_any (n : Int) (w : World) : Calls Try.prog 35 #[.int .i64 n] w fun e w' => e = .returned (.int .i64 (roomI n)) ∧ w = w' := by
  have hb := roomI_bd n
  have h1 := Int.tmod_lt_of_pos n (show (0 : Int) < 400 by omega)
  have h2 : -400 < n.tmod 400 := by
    have := Int.tmod_lt_of_pos (-n) (show (0 : Int) < 400 by omega)
    rw [Int.neg_tmod] at this; omega
  have h3 := Int.tmod_lt_of_pos (n.tmod 400 + 400) (show (0 : Int) < 400 by omega)
  have h4 := Int.tmod_nonneg 400 (show 0 ≤ n.tmod 400 + 400 by omega)
  clear hb
  go_enter Try.func35, Try.ntmps35
  go_wp2
  go_ret
  exact ⟨ret_int (by unfold roomI; rfl), rfl⟩

theorem twin_any (A : Option Addr) (n c : Nat) (bs : List UInt8) (w : World) (B : Nat) (hr : Reads w B 1 A n (bs.map B8)) (hn : n ≤ 140737488351232) :
    Calls Try.prog 18 #[.slice A n c] w fun e w' => ∃ v, e = .returned v ∧ w'.ownsRow w.heap.size 5 1 v n (bs.map B8) ∧ Below w.heap.size w w' := by
  have HRD := Lib.hid hr
  have HB8 : Hid (∀ u ∈ bs.map B8, u.oneCell' = true) := by intro u hu; simp only [List.mem_map] at hu; obtain ⟨b, _, rfl⟩ := hu; rfl
  have hm63 : 0 + n ≤ maxLen := by simp only [maxLen]; omega
  have HM63 := Lib.hid hm63
  have hm40 : (0 + n) * 1 ≤ 140737488355328 := by omega
  have HM40 := Lib.hid hm40
  clear hr hm63 hm40
  obtain ⟨i5, hi5, hz0, hz1, hz2⟩ := info_parts byteInfo
  go_enter Try.func18, Try.ntmps18
  go_wp2_with (at_builtin; go_loud (refine wpList_append_any _ rfl _ _ 22 rfl w.heap.size 5 i5 _ 1 1 Try.underlying22 hi5 hz0 hz1 hz2 rfl (by omega) (.slice none 0 0) 0 [] rfl (World.ownsRow_nil _ _ _ _) B A n c (bs.map B8) rfl HRD.out HB8.out HM63.out HM40.out (Nat.le_refl _) ?_); intro v1 w1 hown1 hg1 hat1; have HOWN := Lib.hid hown1; have HG1 := Lib.hid hg1; clear hown1 hg1 hat1)
  go_ret
  refine ⟨v1, rfl, ?_, (Below.refl _ _).grown HG1.out (Nat.le_refl _) (fun k hk => by simp [Value.ownBlock] at hk)⟩
  have := HOWN.out
  rwa [Nat.zero_add, List.nil_append] at this
end Go.Proofs.Ytdmcjomcbhdcbaa

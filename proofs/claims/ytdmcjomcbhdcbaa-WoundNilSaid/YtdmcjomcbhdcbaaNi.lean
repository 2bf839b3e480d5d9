/- Calls on a wound that is not there; a wound without a drive. -/
import Derived.Test.YtdmcjomcbhdcbaaLi
namespace Go.Proofs.Ytdmcjomcbhdcbaa
open Go.RowKit Go.Maps

theorem struck_nil (may : Bool) (w : World) : Calls Try.prog 50 #[.pointer none, .bool may] w fun e w' => e = .returned (.tuple #[.int .i64 1, .int .i64 (-1)]) ∧ w = w' := by
  go_enter Try.func50, Try.ntmps50
  go_wp2
  go_ret2
  exact ⟨rfl, rfl⟩
theorem wCreate_nil (s : ByteArray) (w : World) : Calls Try.prog 14 #[.pointer none, .string s] w fun e w' => e = .returned (.int .i64 1) ∧ w = w' := by
  go_enter Try.func14, Try.ntmps14
  go_wp2_with (go_at_call 50; refine (struck_nil _ _).mono ?_; rintro e w' ⟨rfl, rfl⟩)
  go_ret
  exact ⟨rfl, rfl⟩
theorem wSync_nil (s : ByteArray) (w : World) : Calls Try.prog 30 #[.pointer none, .string s] w fun e w' => e = .returned (.int .i64 1) ∧ w = w' := by
  go_enter Try.func30, Try.ntmps30
  go_wp2_with (go_at_call 50; refine (struck_nil _ _).mono ?_; rintro e w' ⟨rfl, rfl⟩)
  go_ret
  exact ⟨rfl, rfl⟩
theorem wRemove_nil (s : ByteArray) (w : World) : Calls Try.prog 32 #[.pointer none, .string s] w fun e w' => e = .returned (.int .i64 1) ∧ w = w' := by
  go_enter Try.func32, Try.ntmps32
  go_wp2_with (go_at_call 50; refine (struck_nil _ _).mono ?_; rintro e w' ⟨rfl, rfl⟩)
  go_ret
  exact ⟨rfl, rfl⟩
theorem wRename_nil (s t : ByteArray) (w : World) : Calls Try.prog 31 #[.pointer none, .string s, .string t] w fun e w' => e = .returned (.int .i64 1) ∧ w = w' := by
  go_enter Try.func31, Try.ntmps31
  go_wp2_with (go_at_call 50; refine (struck_nil _ _).mono ?_; rintro e w' ⟨rfl, rfl⟩)
  go_ret
  exact ⟨rfl, rfl⟩
theorem wSyncDir_nil  (w : World) : Calls Try.prog 33 #[.pointer none] w fun e w' => e = .returned (.int .i64 1) ∧ w = w' := by
  go_enter Try.func33, Try.ntmps33
  go_wp2_with (go_at_call 50; refine (struck_nil _ _).mono ?_; rintro e w' ⟨rfl, rfl⟩)
  go_ret
  exact ⟨rfl, rfl⟩
theorem wAppend_nil (s : ByteArray) (A : Option Addr) (n c : Nat) (w : World) : Calls Try.prog 15 #[.pointer none, .string s, .slice A n c] w fun e w' => e = .returned (.int .i64 1) ∧ w = w' := by
  go_enter Try.func15, Try.ntmps15
  go_wp2_with (go_at_call 50; refine (struck_nil _ _).mono ?_; rintro e w' ⟨rfl, rfl⟩)
  go_ret
  exact ⟨rfl, rfl⟩
theorem wRead_nil (s : ByteArray) (w : World) : Calls Try.prog 17 #[.pointer none, .string s] w fun e w' => e = .returned (.tuple #[.slice none 0 0, .int .i64 1]) ∧ w = w' := by
  go_enter Try.func17, Try.ntmps17
  go_wp2_with (go_at_call 50; refine (struck_nil _ _).mono ?_; rintro e w' ⟨rfl, rfl⟩)
  go_ret2
  exact ⟨rfl, rfl⟩
theorem wList_nil  (w : World) : Calls Try.prog 19 #[.pointer none] w fun e w' => e = .returned (.tuple #[.slice none 0 0, .int .i64 1]) ∧ w = w' := by
  go_enter Try.func19, Try.ntmps19
  go_wp2_with (go_at_call 50; refine (struck_nil _ _).mono ?_; rintro e w' ⟨rfl, rfl⟩)
  go_ret2
  exact ⟨rfl, rfl⟩
theorem wOffline_nil (b : Bool) (w : World) : Calls Try.prog 23 #[.pointer none, .bool b] w fun e w' => e = .returned (.tuple #[]) ∧ w = w' := by
  go_enter Try.func23, Try.ntmps23
  go_wp2
  first
    | (go_end0; exact ⟨rfl, rfl⟩)
    | exact bodyPost_ret (v := .tuple #[]) (by simp only [results, Try.results23]; go_simp) rfl ⟨rfl, rfl⟩
theorem wPower_nil (b : Bool) (w : World) : Calls Try.prog 26 #[.pointer none, .bool b] w fun e w' => e = .returned (.tuple #[]) ∧ w = w' := by
  go_enter Try.func26, Try.ntmps26
  go_wp2
  first
    | (go_end0; exact ⟨rfl, rfl⟩)
    | exact bodyPost_ret (v := .tuple #[]) (by simp only [results, Try.results26]; go_simp) rfl ⟨rfl, rfl⟩
theorem wRest_nil (b : Bool) (w : World) : Calls Try.prog 25 #[.pointer none, .bool b] w fun e w' => e = .returned (.tuple #[]) ∧ w = w' := by
  go_enter Try.func25, Try.ntmps25
  go_wp2
  exact bodyPost_ret (v := .tuple #[]) (by simp only [results, Try.results25]; go_simp) rfl ⟨rfl, rfl⟩
theorem wCalls_nil (w : World) : Calls Try.prog 27 #[.pointer none] w fun e w' => e = .returned (.int .i64 0) ∧ w = w' := by
  go_enter Try.func27, Try.ntmps27
  go_wp2
  go_ret
  exact ⟨rfl, rfl⟩
theorem wOn_nil (w : World) : Calls Try.prog 29 #[.pointer none] w fun e w' => e = .returned (.bool false) ∧ w = w' := by
  go_enter Try.func29, Try.ntmps29
  go_wp2
  go_ret
  exact ⟨rfl, rfl⟩
theorem dappend_nil (s : ByteArray) (A : Option Addr) (n c : Nat) (w : World) : Calls Try.prog 42 #[.pointer none, .string s, .slice A n c] w fun e w' => e = .returned (.int .i64 1) ∧ w = w' := by
  go_enter Try.func42, Try.ntmps42
  go_wp2_with (go_at_call 70; refine (find_nil _ _).mono ?_; rintro e w' ⟨rfl, rfl⟩)
  go_ret
  exact ⟨rfl, rfl⟩
theorem dsyncDir_nil (w : World) : Calls Try.prog 57 #[.pointer none] w fun e w' => e = .returned (.int .i64 1) ∧ w = w' := by
  go_enter Try.func57, Try.ntmps57
  go_wp2
  go_ret
  exact ⟨rfl, rfl⟩

/-- A bare wound: whatever goes through finds no drive. -/
theorem bare_create (q : Nat) (X : Wnd) (F : Nat → Prop) (s : ByteArray) (w : World) (h : Wn w q (.pointer none) X F) (hX : X.Ok) (he : (X.struck true).2.1 = 0) :
    Calls Try.prog 14 #[.pointer (some ⟨q, 0, none⟩), .string s] w fun e w' => e = .returned (.int .i64 1) ∧ Wn w' q (.pointer none) (X.struck true).1 F ∧ Touch F w w' := by
  have HK := Lib.hid (struck_any q _ X F true w h hX)
  have HE := Lib.hid he
  clear h hX he
  go_enter Try.func14, Try.ntmps14
  go_wp2_with (first
    | (go_at_call 50; refine HK.out.mono ?_; rintro e w1 ⟨rfl, hw1, ht1⟩; rw [HE.out]; have q0 : w1.cell? ⟨q, 0, none⟩ = some (.pointer none) := head_cell hw1; have HW1 := Lib.hid hw1; have HT1 := Lib.hid ht1; clear hw1 ht1)
    | (go_at_call 51; refine (create_nil _ _).mono ?_; rintro e w2 ⟨rfl, rfl⟩))
  go_ret
  exact ⟨rfl, HW1.out, HT1.out⟩
theorem bare_syncDir (q : Nat) (X : Wnd) (F : Nat → Prop) (w : World) (h : Wn w q (.pointer none) X F) (hX : X.Ok) (he : (X.struck false).2.1 = 0) :
    Calls Try.prog 33 #[.pointer (some ⟨q, 0, none⟩)] w fun e w' => e = .returned (.int .i64 1) ∧ Wn w' q (.pointer none) (X.struck false).1 F ∧ Touch F w w' := by
  have HK := Lib.hid (struck_any q _ X F false w h hX)
  have HE := Lib.hid he
  clear h hX he
  go_enter Try.func33, Try.ntmps33
  go_wp2_with (first
    | (go_at_call 50; refine HK.out.mono ?_; rintro e w1 ⟨rfl, hw1, ht1⟩; rw [HE.out]; have q0 : w1.cell? ⟨q, 0, none⟩ = some (.pointer none) := head_cell hw1; have HW1 := Lib.hid hw1; have HT1 := Lib.hid ht1; clear hw1 ht1)
    | (go_at_call 57; refine (dsyncDir_nil _).mono ?_; rintro e w2 ⟨rfl, rfl⟩))
  go_ret
  exact ⟨rfl, HW1.out, HT1.out⟩
theorem bare_append (q : Nat) (X : Wnd) (F : Nat → Prop) (s : ByteArray) (a : Addr) (w : World) (h : Wn w q (.pointer none) X F) (hX : X.Ok) (he : X.struck true = ({ X.count with down := true }, 122, 5)) :
    Calls Try.prog 15 #[.pointer (some ⟨q, 0, none⟩), .string s, .slice (some a) 1 1] w fun e w' => e = .returned (.int .i64 122) ∧ Wn w' q (.pointer none) { X.count with down := true } F ∧ Touch F w w' := by
  have HK := Lib.hid (struck_any q _ X F true w h hX)
  have HE := Lib.hid he
  clear h hX he
  go_enter Try.func15, Try.ntmps15
  go_wp2_with (go_at_call 50; refine HK.out.mono ?_; rintro e w1 ⟨rfl, hw1, ht1⟩; rw [HE.out] at hw1 ⊢; have q0 : w1.cell? ⟨q, 0, none⟩ = some (.pointer none) := head_cell hw1; have HW1 := Lib.hid hw1; have HT1 := Lib.hid ht1; clear hw1 ht1)
  go_region_with (go_at_call 42; refine (dappend_nil _ _ _ _ _).mono ?_; rintro e w2 ⟨rfl, hw2⟩; subst hw2)
  all_goals (
    go_wp2
    go_ret
    exact ⟨rfl, HW1.out.keep (Touch.drewN (F := fun _ => False) w1 1) (fun _ _ h => h), HT1.out.trans (Touch.drewN w1 1)⟩)
end Go.Proofs.Ytdmcjomcbhdcbaa

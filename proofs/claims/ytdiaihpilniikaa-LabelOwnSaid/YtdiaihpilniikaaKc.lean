/- Numbers as bytes: how many bytes a kind has. -/
import Derived.Test.YtdiaihpilniikaaKh
import Derived.Test.YtdiaihpilniikaaPf
import Derived.Laws.BitsAllLaws
import Derived.Laws.Shifts
namespace Go.Proofs.Ytdiaihpilniikaa
open Go.RowKit Go.Maps

set_option maxRecDepth 100000 in
theorem len64_8 (w : World) : Calls Try.prog 63 #[.int .u64 255] w fun e w' => e = .returned (.int .i64 8) ∧ w = w' := by
  go_enter Try.func63, Try.ntmps63
  go_wp2
  go_ret
  refine ⟨?_, rfl⟩
  kernel_rfl
set_option maxRecDepth 100000 in
theorem len64_32 (w : World) : Calls Try.prog 63 #[.int .u64 4294967295] w fun e w' => e = .returned (.int .i64 32) ∧ w = w' := by
  go_enter Try.func63, Try.ntmps63
  go_wp2
  go_ret
  refine ⟨?_, rfl⟩
  kernel_rfl
set_option maxRecDepth 100000 in
theorem len64_64 (w : World) : Calls Try.prog 63 #[.int .u64 18446744073709551615] w fun e w' => e = .returned (.int .i64 64) ∧ w = w' := by
  go_enter Try.func63, Try.ntmps63
  go_wp2
  go_ret
  refine ⟨?_, rfl⟩
  kernel_rfl
theorem width8_any (w : World) : Calls Try.prog 55 #[] w fun e w' => e = .returned (.int .i64 1) ∧ w = w' := by
  have hsg : IntKind.u8.signed = false := rfl
  have h1 : bits .xor .u8 IntKind.u8.max 0 = 255 := by decide
  go_enter Try.func55, Try.ntmps55
  go_wp2_with (go_at_call 63; refine (len64_8 _).mono ?_; rintro e w' ⟨rfl, rfl⟩)
  go_ret
  exact ⟨rfl, rfl⟩
theorem width32_any (w : World) : Calls Try.prog 47 #[] w fun e w' => e = .returned (.int .i64 4) ∧ w = w' := by
  have hsg : IntKind.u32.signed = false := rfl
  have h1 : bits .xor .u32 IntKind.u32.max 0 = 4294967295 := by decide
  go_enter Try.func47, Try.ntmps47
  go_wp2_with (go_at_call 63; refine (len64_32 _).mono ?_; rintro e w' ⟨rfl, rfl⟩)
  go_ret
  exact ⟨rfl, rfl⟩
theorem width64_any (w : World) : Calls Try.prog 48 #[] w fun e w' => e = .returned (.int .i64 8) ∧ w = w' := by
  have hsg : IntKind.u64.signed = false := rfl
  have h1 : bits .xor .u64 IntKind.u64.max 0 = 18446744073709551615 := by decide
  go_enter Try.func48, Try.ntmps48
  go_wp2_with (go_at_call 63; refine (len64_64 _).mono ?_; rintro e w' ⟨rfl, rfl⟩)
  go_ret
  exact ⟨rfl, rfl⟩
end Go.Proofs.Ytdiaihpilniikaa

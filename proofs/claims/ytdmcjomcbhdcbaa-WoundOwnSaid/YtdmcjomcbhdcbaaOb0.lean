/- cairnlaw12.mark: a text of a list alone. -/
import Derived.Test.YtdmcjomcbhdcbaaOa
namespace Go.Proofs.Ytdmcjomcbhdcbaa
open Go.RowKit Go.Maps

/-- The text of list i. -/
def mkS (i : Nat) (ins : Bool) : ByteArray := (if ins = true then (⟨#[105, 110]⟩ : ByteArray) else ⟨#[98, 101, 104, 105, 110, 100]⟩) ++ ⟨#[UInt8.ofNat (65 + i)]⟩
set_option maxRecDepth 100000 in
theorem mark_any (i : Nat) (hi : i ≤ 100) (ins : Bool) (w : World) :
    Calls Try.prog 76 #[.int .i64 i, .bool ins] w fun e w' => e = .returned (.string (mkS i ins)) ∧ Below w.heap.size w w' := by
  have hb : B8 (UInt8.ofNat (65 + i)) = .int .u8 (65 + (i : Int)) := by
    unfold B8; congr 1; rw [UInt8.toNat_ofNat']; omega
  have hcv : (convert 22 9 (.slice (some ⟨w.heap.size, 0, none⟩) 1 1)).run Try.prog (w.alloc (.cells #[.int .u8 (65 + (i : Int))] 5)) = .ok (.string ⟨#[UInt8.ofNat (65 + i)]⟩) (w.alloc (.cells #[.int .u8 (65 + (i : Int))] 5)) := by
    have h := conv_any (w.alloc (.cells #[.int .u8 (65 + (i : Int))] 5)) (w.heap.size + 1) (some ⟨w.heap.size, 0, none⟩) [UInt8.ofNat (65 + i)] 1 (by
      have h2 := reads_blk (n := 1) (size := 1) (B := w.heap.size + 1) (vs := [.int .u8 (65 + (i : Int))]) (blk_last w w.heap.size 5 #[.int .u8 (65 + (i : Int))] rfl) (by omega) rfl
      show Reads _ _ 1 _ 1 [B8 (UInt8.ofNat (65 + i))]
      rw [hb]
      exact h2)
    exact h
  have hmod : (65 + (i : Int)) % 256 = 65 + (i : Int) := by omega
  cases ins with
  | true =>
    obtain ⟨b, hbe⟩ : ∃ b : ByteArray, b = ⟨#[UInt8.ofNat (65 + i)]⟩ := ⟨_, rfl⟩
    have e : mkS i true = (⟨#[105, 110]⟩ : ByteArray) ++ b := by rw [hbe]; rfl
    rw [e]
    rw [← hbe] at hcv
    have hsz : b.size ≤ 1 := by rw [hbe]; exact Nat.le_refl _
    clear hb e hbe
    go_enter Try.func76, Try.ntmps76
    go_wp2
    go_ret
    exact ⟨rfl, (Below.refl _ w).alloc (Nat.le_refl _) _⟩
  | false =>
    obtain ⟨b, hbe⟩ : ∃ b : ByteArray, b = ⟨#[UInt8.ofNat (65 + i)]⟩ := ⟨_, rfl⟩
    have e : mkS i false = (⟨#[98, 101, 104, 105, 110, 100]⟩ : ByteArray) ++ b := by rw [hbe]; rfl
    rw [e]
    rw [← hbe] at hcv
    have hsz : b.size ≤ 1 := by rw [hbe]; exact Nat.le_refl _
    clear hb e hbe
    go_enter Try.func76, Try.ntmps76
    go_wp2
    go_ret
    exact ⟨rfl, (Below.refl _ w).alloc (Nat.le_refl _) _⟩
end Go.Proofs.Ytdmcjomcbhdcbaa

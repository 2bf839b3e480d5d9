/- A file written whole: layer 13 over a drive where every call goes well. -/
import Derived.Test.YtdiaihpilniikaaKp
import Derived.Test.YtdiaihpilniikaaDj
namespace Go.Proofs.Ytdiaihpilniikaa
open Go.RowKit Go.Maps

def nT : ByteArray := ⟨#[116]⟩
def nL : ByteArray := ⟨#[108]⟩

set_option maxRecDepth 100000 in
set_option maxHeartbeats 2000000 in
theorem w1_any (b p : Nat) (S : Drv) (F : Nat → Prop) (w : World) (hd : Dr w p S F) (hS : S.Small) (hb : w.cell? ⟨b, 0, none⟩ = some (.iface 50 (.pointer (some ⟨p, 0, none⟩)))) :
    Calls Try.prog 41 #[.pointer (some ⟨b, 0, none⟩)] w fun e w' => e = .returned (.int .i64 (S.create [116]).2) ∧ Dr w' p (S.create [116]).1 (grow F w w') ∧ Touch F w w' := by
  have HC := Lib.hid (create_any p S F nT w (by decide) hd hS)
  clear hd hS
  have hm : ∀ W : World, (method 224 50 (.pointer (some ⟨p, 0, none⟩)) "Create").run Try.prog W = .ok (83, .pointer (some ⟨p, 0, none⟩)) W := fun _ => by kernel_rfl
  go_enter Try.func41, Try.ntmps41
  go_wp2_with (go_at_call 83; refine HC.out.mono ?_; rintro e w1 ⟨rfl, h1, h2⟩; have H1 := Lib.hid h1; have H2 := Lib.hid h2; clear h1 h2)
  go_ret
  exact ⟨rfl, H1.out, H2.out⟩

set_option maxRecDepth 100000 in
set_option maxHeartbeats 2000000 in
theorem w2_any (b b2 p : Nat) (S : Drv) (F : Nat → Prop) (w : World) (hd : Dr w p S F) (hS : S.Small) (hb : w.cell? ⟨b, 0, none⟩ = some (.iface 50 (.pointer (some ⟨p, 0, none⟩)))) (A : Option Addr) (c : Nat) (bs : List UInt8) (hb2 : w.cell? ⟨b2, 0, none⟩ = some (.slice A bs.length c)) (hr : Reads w w.heap.size 1 A bs.length (bs.map B8)) (hbs : bs.length ≤ 1000000) :
    Calls Try.prog 42 #[.pointer (some ⟨b, 0, none⟩), .pointer (some ⟨b2, 0, none⟩)] w fun e w' => e = .returned (.int .i64 (S.append [116] bs).2) ∧ Dr w' p (S.append [116] bs).1 (grow F w w') ∧ Touch F w w' := by
  have HC := Lib.hid (append_any p S F nT w (by decide) hd hS A c bs hr (by omega))
  clear hd hS hr
  have hm : ∀ W : World, (method 224 50 (.pointer (some ⟨p, 0, none⟩)) "Append").run Try.prog W = .ok (82, .pointer (some ⟨p, 0, none⟩)) W := fun _ => by kernel_rfl
  go_enter Try.func42, Try.ntmps42
  go_wp2_with (go_at_call 82; refine HC.out.mono ?_; rintro e w1 ⟨rfl, h1, h2⟩; have H1 := Lib.hid h1; have H2 := Lib.hid h2; clear h1 h2)
  go_ret
  exact ⟨rfl, H1.out, H2.out⟩

set_option maxRecDepth 100000 in
set_option maxHeartbeats 2000000 in
theorem w3_any (b p : Nat) (S : Drv) (F : Nat → Prop) (w : World) (hd : Dr w p S F) (hS : S.Small) (hb : w.cell? ⟨b, 0, none⟩ = some (.iface 50 (.pointer (some ⟨p, 0, none⟩)))) :
    Calls Try.prog 43 #[.pointer (some ⟨b, 0, none⟩)] w fun e w' => e = .returned (.int .i64 (S.sync [116]).2) ∧ Dr w' p (S.sync [116]).1 (grow F w w') ∧ Touch F w w' := by
  have HC := Lib.hid (sync_any p S F nT w (by decide) hd hS)
  clear hd hS
  have hm : ∀ W : World, (method 224 50 (.pointer (some ⟨p, 0, none⟩)) "Sync").run Try.prog W = .ok (91, .pointer (some ⟨p, 0, none⟩)) W := fun _ => by kernel_rfl
  go_enter Try.func43, Try.ntmps43
  go_wp2_with (go_at_call 91; refine HC.out.mono ?_; rintro e w1 ⟨rfl, h1, h2⟩; have H1 := Lib.hid h1; have H2 := Lib.hid h2; clear h1 h2)
  go_ret
  exact ⟨rfl, H1.out, H2.out⟩

set_option maxRecDepth 100000 in
set_option maxHeartbeats 2000000 in
theorem w4_any (b b2 p : Nat) (S : Drv) (F : Nat → Prop) (w : World) (hd : Dr w p S F) (hS : S.Small) (hb : w.cell? ⟨b, 0, none⟩ = some (.iface 50 (.pointer (some ⟨p, 0, none⟩)))) (hb2 : w.cell? ⟨b2, 0, none⟩ = some (.string ⟨#[108]⟩)) :
    Calls Try.prog 44 #[.pointer (some ⟨b, 0, none⟩), .pointer (some ⟨b2, 0, none⟩)] w fun e w' => e = .returned (.int .i64 (S.rename [116] [108]).2) ∧ Dr w' p (S.rename [116] [108]).1 (grow F w w') ∧ Touch F w w' := by
  have HC := Lib.hid (rename_any p S F nT nL w (by decide) (by decide) hd hS)
  clear hd hS
  have hm : ∀ W : World, (method 224 50 (.pointer (some ⟨p, 0, none⟩)) "Rename").run Try.prog W = .ok (88, .pointer (some ⟨p, 0, none⟩)) W := fun _ => by kernel_rfl
  go_enter Try.func44, Try.ntmps44
  go_wp2_with (go_at_call 88; refine HC.out.mono ?_; rintro e w1 ⟨rfl, h1, h2⟩; have H1 := Lib.hid h1; have H2 := Lib.hid h2; clear h1 h2)
  go_ret
  exact ⟨rfl, H1.out, H2.out⟩
end Go.Proofs.Ytdiaihpilniikaa

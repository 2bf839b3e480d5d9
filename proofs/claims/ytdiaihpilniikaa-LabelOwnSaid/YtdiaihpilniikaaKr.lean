/- A file written whole: the whole writing. -/
import Derived.Test.YtdiaihpilniikaaKq
namespace Go.Proofs.Ytdiaihpilniikaa
open Go.RowKit Go.Maps

theorem look_any (p : Nat) (w : World) : Calls Try.prog 40 #[.iface 50 (.pointer (some ⟨p, 0, none⟩)), .string ⟨#[108]⟩] w fun e w' => e = .returned (.int .i64 0) ∧ w = w' := by
  go_enter Try.func40, Try.ntmps40
  go_wp2
  go_ret
  exact ⟨rfl, rfl⟩
def wst (S S1 S2 S3 S4 : Drv) : Nat → Drv
  | 0 => S
  | 1 => S1
  | 2 => S2
  | 3 => S3
  | 4 => S4
  | _ => S4.syncDir

set_option maxRecDepth 100000 in
set_option maxHeartbeats 8000000 in
theorem dwrite_any (p : Nat) (S S1 S2 S3 S4 : Drv) (F : Nat → Prop) (A : Option Addr) (c : Nat) (bs : List UInt8) (w : World) (hd : Dr w p S F) (hF : ∀ k, F k → k < w.heap.size)
    (hr : ∀ W, Touch F w W → Reads W W.heap.size 1 A bs.length (bs.map B8)) (hbs : bs.length ≤ 1000000) (s0 : S.Small) (s1 : S1.Small) (s2 : S2.Small) (s3 : S3.Small)
    (h1 : S.create [116] = (S1, 0)) (h2 : S1.append [116] bs = (S2, 0)) (h3 : S2.sync [116] = (S3, 0)) (h4 : S3.rename [116] [108] = (S4, 0)) :
    Calls Try.prog 22 #[.iface 50 (.pointer (some ⟨p, 0, none⟩)), .string ⟨#[108]⟩, .slice A bs.length c] w fun e w' => e = .returned (.int .i64 0) ∧ Dr w' p S4.syncDir (grow F w w') ∧ Touch F w w' := by
  have hmf : ∀ (fn : Fn) (first cap : Array Value) (w : World), (Instr.makeFunc fn first cap).run Try.prog w = .ok (.func fn first cap) w := fun _ _ _ _ => rfl
  have hm : ∀ W : World, (method 224 50 (.pointer (some ⟨p, 0, none⟩)) "SyncDir").run Try.prog W = .ok (92, .pointer (some ⟨p, 0, none⟩)) W := fun _ => by kernel_rfl
  have HD := Lib.hid hd
  have HF := Lib.hid hF
  have HR := Lib.hid hr
  have HS := Lib.hid (And.intro s0 (And.intro s1 (And.intro s2 s3)))
  have HH := Lib.hid (And.intro h1 (And.intro h2 (And.intro h3 h4)))
  have HBS := Lib.hid hbs
  clear hd hF hr s0 s1 s2 s3 h1 h2 h3 h4 hbs
  go_enter Try.func22, Try.ntmps22
  go_wp2_with (go_at_call 40; refine (look_any p _).mono ?_; rintro e w' ⟨rfl, rfl⟩)
  refine wp_world fun X hX => ?_
  have HK0 : Hid (Blk X w.heap.size 47 #[.iface 50 (.pointer (some ⟨p, 0, none⟩))]) := Lib.hid (by rw [hX]; exact (((Blk.new w _ _).alloc _).alloc _).alloc _)
  have HK1 : Hid (Blk X (w.heap.size + 1) 9 #[.string ⟨#[108]⟩]) := Lib.hid (by rw [hX]; exact ((blk_last _ _ _ _ (by simp only [alloc_size])).alloc _).alloc _)
  have HK2 : Hid (Blk X (w.heap.size + 1 + 1) 33 #[.slice A bs.length c]) := Lib.hid (by rw [hX]; exact (blk_last _ _ _ _ (by simp only [alloc_size])).alloc _)
  have HK3 : Hid (Blk X (w.heap.size + 1 + 1 + 1) 68 #[.func (.func 41) #[] #[.pointer (some ⟨w.heap.size, 0, none⟩)], .func (.func 42) #[] #[.pointer (some ⟨w.heap.size, 0, none⟩), .pointer (some ⟨w.heap.size + 1 + 1, 0, none⟩)], .func (.func 43) #[] #[.pointer (some ⟨w.heap.size, 0, none⟩)], .func (.func 44) #[] #[.pointer (some ⟨w.heap.size, 0, none⟩), .pointer (some ⟨w.heap.size + 1, 0, none⟩)], .func (.method "SyncDir") #[.iface 50 (.pointer (some ⟨p, 0, none⟩))] #[]]) := Lib.hid (by rw [hX]; exact blk_last _ _ _ _ (by simp only [alloc_size]))
  have HBX : Hid (Below w.heap.size w X) := Lib.hid (by rw [hX]; exact ((((Below.refl _ w).alloc (Nat.le_refl _) _).alloc (by simp only [alloc_size]; omega) _).alloc (by simp only [alloc_size]; omega) _).alloc (by simp only [alloc_size]; omega) _)
  have HXS : Hid (w.heap.size ≤ X.heap.size) := Lib.hid HBX.out.size
  clear hX
  have HN : Hid (∀ i, w.heap.size ≤ i → ¬F i) := Lib.hid fun i hi hf => by have := HF.out i hf; omega
  have HWT : Hid (∀ W, Touch F X W → Touch F w W) := Lib.hid fun W h => (Touch.of_below HBX.out).trans (h.mono fun i _ hi => .inl hi)
  go_loopw [9, 10, 26] (fun _ _ s26 wr => ∃ k : Nat, k ≤ 5 ∧ s26 = .int .i64 k ∧ Dr wr p (wst S S1 S2 S3 S4 k) (grow F X wr) ∧ Touch F X wr) (fun _ _ s _ => 5 - (intOf s).toNat)
  case atStart => exact ⟨0, Nat.zero_le _, rfl, (HD.out.below HBX.out).mono fun i hi => .inl hi, Touch.refl _ _⟩
  case round =>
    obtain ⟨k, hk, rfl, hd, ht⟩ := hrel
    have HD1 := Lib.hid hd
    have HT1 := Lib.hid ht
    have hsz := ht.size
    have c0 : wr.cell? ⟨w.heap.size, 0, none⟩ = some (.iface 50 (.pointer (some ⟨p, 0, none⟩))) := (HK0.out.touch ht (HN.out _ (by omega))).cell 0
    have c1 : wr.cell? ⟨w.heap.size + 1, 0, none⟩ = some (.string ⟨#[108]⟩) := (HK1.out.touch ht (HN.out _ (by omega))).cell 0
    have c2 : wr.cell? ⟨w.heap.size + 1 + 1, 0, none⟩ = some (.slice A bs.length c) := (HK2.out.touch ht (HN.out _ (by omega))).cell 0
    have HK3r := Lib.hid (HK3.out.touch ht (HN.out _ (by omega)))
    have HC0 := Lib.hid c0
    have HC1 := Lib.hid c1
    have HC2 := Lib.hid c2
    clear hd ht c0 c1 c2
    by_cases hlt : k < 5
    · obtain rfl | rfl | rfl | rfl | rfl : k = 0 ∨ k = 1 ∨ k = 2 ∨ k = 3 ∨ k = 4 := by omega
      · have y : wr.cell? ⟨w.heap.size + 1 + 1 + 1, 0, none⟩ = some (.func (.func 41) #[] #[.pointer (some ⟨w.heap.size, 0, none⟩)]) := HK3r.out.cell 0
        go_wp2_with (go_at_call 41; refine (w1_any w.heap.size p S _ wr HD1.out HS.out.1 HC0.out).mono ?_; rw [HH.out.1]; rintro e w1 ⟨rfl, hd1, ht1⟩; have HD2 := Lib.hid hd1; have HT2 := Lib.hid ht1; clear hd1 ht1)
        go_roundw
        case rel => exact ⟨1, by omega, by go_num, HD2.out.mono fun i hi => (grow_trans hsz HT2.out.size i).1 hi, HT1.out.trans HT2.out⟩
        case measure => first | (simp [intOf]; done) | (simp [intOf]; omega)
      · have y : wr.cell? ⟨w.heap.size + 1 + 1 + 1, 1, none⟩ = some (.func (.func 42) #[] #[.pointer (some ⟨w.heap.size, 0, none⟩), .pointer (some ⟨w.heap.size + 1 + 1, 0, none⟩)]) := HK3r.out.cell 1
        go_wp2_with (go_at_call 42; refine (w2_any w.heap.size (w.heap.size + 1 + 1) p S1 _ wr HD1.out HS.out.2.1 HC0.out A c bs HC2.out (HR.out wr (HWT.out wr HT1.out)) HBS.out).mono ?_; rw [HH.out.2.1]; rintro e w1 ⟨rfl, hd1, ht1⟩; have HD2 := Lib.hid hd1; have HT2 := Lib.hid ht1; clear hd1 ht1)
        go_roundw
        case rel => exact ⟨2, by omega, by go_num, HD2.out.mono fun i hi => (grow_trans hsz HT2.out.size i).1 hi, HT1.out.trans HT2.out⟩
        case measure => first | (simp [intOf]; done) | (simp [intOf]; omega)
      · have y : wr.cell? ⟨w.heap.size + 1 + 1 + 1, 2, none⟩ = some (.func (.func 43) #[] #[.pointer (some ⟨w.heap.size, 0, none⟩)]) := HK3r.out.cell 2
        go_wp2_with (go_at_call 43; refine (w3_any w.heap.size p S2 _ wr HD1.out HS.out.2.2.1 HC0.out).mono ?_; rw [HH.out.2.2.1]; rintro e w1 ⟨rfl, hd1, ht1⟩; have HD2 := Lib.hid hd1; have HT2 := Lib.hid ht1; clear hd1 ht1)
        go_roundw
        case rel => exact ⟨3, by omega, by go_num, HD2.out.mono fun i hi => (grow_trans hsz HT2.out.size i).1 hi, HT1.out.trans HT2.out⟩
        case measure => first | (simp [intOf]; done) | (simp [intOf]; omega)
      · have y : wr.cell? ⟨w.heap.size + 1 + 1 + 1, 3, none⟩ = some (.func (.func 44) #[] #[.pointer (some ⟨w.heap.size, 0, none⟩), .pointer (some ⟨w.heap.size + 1, 0, none⟩)]) := HK3r.out.cell 3
        go_wp2_with (go_at_call 44; refine (w4_any w.heap.size (w.heap.size + 1) p S3 _ wr HD1.out HS.out.2.2.2 HC0.out HC1.out).mono ?_; rw [HH.out.2.2.2]; rintro e w1 ⟨rfl, hd1, ht1⟩; have HD2 := Lib.hid hd1; have HT2 := Lib.hid ht1; clear hd1 ht1)
        go_roundw
        case rel => exact ⟨4, by omega, by go_num, HD2.out.mono fun i hi => (grow_trans hsz HT2.out.size i).1 hi, HT1.out.trans HT2.out⟩
        case measure => first | (simp [intOf]; done) | (simp [intOf]; omega)
      · have y : wr.cell? ⟨w.heap.size + 1 + 1 + 1, 4, none⟩ = some (.func (.method "SyncDir") #[.iface 50 (.pointer (some ⟨p, 0, none⟩))] #[]) := HK3r.out.cell 4
        go_wp2_with (go_at_call 92; refine (syncDir_any p S4 _ wr HD1.out).mono ?_; rintro e w1 ⟨rfl, hd1, ht1⟩; have HD2 := Lib.hid hd1; have HT2 := Lib.hid ht1; clear hd1 ht1)
        go_roundw
        case rel => exact ⟨5, by omega, by go_num, HD2.out.mono fun i hi => (grow_trans hsz HT2.out.size i).1 hi, HT1.out.trans HT2.out⟩
        case measure => first | (simp [intOf]; done) | (simp [intOf]; omega)
    · obtain rfl : k = 5 := by omega
      go_wp2
      go_ret
      refine ⟨rfl, HD1.out.mono fun i hi => ?_, HWT.out wr HT1.out⟩
      rcases hi with hi | ⟨h1, h2⟩
      · exact .inl hi
      · exact .inr ⟨Nat.le_trans HXS.out h1, h2⟩
end Go.Proofs.Ytdiaihpilniikaa

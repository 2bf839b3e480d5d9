/- Labels compared; the law's sample; Parse of any list.; A file written whole: layer 13 over a drive where every call goes well.; A file written whole: the whole writing. -/
import Derived.Test.YtdiaihpilniikaaGreatM16
import Derived.Test.YtdiaihpilniikaaGreatM6
namespace Go.Proofs.YtdiaihpilniikaaGreat
open Go.RowKit Go.Maps
set_option maxRecDepth 100000 in
theorem lab_same (l : Lab) (hl : l.st.length = 8) (W : World) : (Op.equalIn 10000 27 (labV l) (labV l)).run Tryz.prog W = .ok true W := by
  obtain ⟨a0, a1, a2, a3, a4, a5, a6, a7, hst⟩ := lab_eight hl
  have e1 : labV l = .agg #[.int .u8 (a0.toNat : Int), .int .u8 (a1.toNat : Int), .int .u8 (a2.toNat : Int), .int .u8 (a3.toNat : Int), .int .u8 (a4.toNat : Int), .int .u8 (a5.toNat : Int), .int .u8 (a6.toNat : Int), .int .u8 (a7.toNat : Int), .int .i64 l.k, .int .i64 l.m, .int .i64 l.b, .int .i64 l.i, .int .i64 l.e] := by
    unfold labV labCells; rw [hst]; rfl
  rw [e1]
  have hp : Tryz.prog.stoodInHeld 27 = false := by kernel_rfl
  have hp2 : Tryz.prog.stoodInHeld 25 = false := by kernel_rfl
  have ht : Tryz.prog.underlying 27 = some (.struct (Tryz.prog.fieldsOf 27)) := by simp [Program.fieldsOf, Tryz.underlying27]
  have ht2 : Tryz.prog.underlying 25 = some (.struct (Tryz.prog.fieldsOf 25)) := by simp [Program.fieldsOf, Tryz.underlying25]
  have g1 : ∀ W, (isAgg 23).run Tryz.prog W = .ok true W := fun W => by kernel_rfl
  have g2 : ∀ W, (isAgg 25).run Tryz.prog W = .ok true W := fun W => by kernel_rfl
  have g3 : ∀ W, (isAgg 3).run Tryz.prog W = .ok false W := fun W => by kernel_rfl
  have z1 : ∀ W, (sizeOf 23).run Tryz.prog W = .ok 8 W := fun W => by kernel_rfl
  have z2 : ∀ W, (sizeOf 25).run Tryz.prog W = .ok 3 W := fun W => by kernel_rfl
  have hb : (Op.equalIn 9999 23 (.agg #[.int .u8 (a0.toNat : Int), .int .u8 (a1.toNat : Int), .int .u8 (a2.toNat : Int), .int .u8 (a3.toNat : Int), .int .u8 (a4.toNat : Int), .int .u8 (a5.toNat : Int), .int .u8 (a6.toNat : Int), .int .u8 (a7.toNat : Int)]) (.agg #[.int .u8 (a0.toNat : Int), .int .u8 (a1.toNat : Int), .int .u8 (a2.toNat : Int), .int .u8 (a3.toNat : Int), .int .u8 (a4.toNat : Int), .int .u8 (a5.toNat : Int), .int .u8 (a6.toNat : Int), .int .u8 (a7.toNat : Int)])).run Tryz.prog W = .ok true W := by
    have := run_equalIn_bytes (P := Tryz.prog) W 9997 23 5 8 Tryz.underlying23 Tryz.underlying5 (fun w => by kernel_rfl) [a0, a1, a2, a3, a4, a5, a6, a7] [a0, a1, a2, a3, a4, a5, a6, a7] rfl rfl
    rw [beq_self_eq_true] at this
    exact this
  have hs : (Op.equalIn 9999 25 (.agg #[.int .i64 l.k, .int .i64 l.m, .int .i64 l.b]) (.agg #[.int .i64 l.k, .int .i64 l.m, .int .i64 l.b])).run Tryz.prog W = .ok true W := by
    rw [run_equalIn_agg W 9998 25 _ _ ht2 hp2]
    simp [Program.fieldsOf, Tryz.underlying25, Op.eqFields, part, g3, run_equalIn_int W 9997 3 .i64 .i64 _ _ Tryz.underlying3]
  have hi : (Op.equalIn 9999 3 (.int .i64 l.i) (.int .i64 l.i)).run Tryz.prog W = .ok (l.i == l.i) W := run_equalIn_int W 9998 3 .i64 .i64 _ _ Tryz.underlying3
  have he : (Op.equalIn 9999 3 (.int .i64 l.e) (.int .i64 l.e)).run Tryz.prog W = .ok (l.e == l.e) W := run_equalIn_int W 9998 3 .i64 .i64 _ _ Tryz.underlying3
  rw [run_equalIn_agg W 9999 27 _ _ ht hp]
  simp [Program.fieldsOf, Tryz.underlying27, Op.eqFields, part, g1, g2, g3, z1, z2, hb, hs, hi, he]
theorem lab_eql (l : Lab) (hl : l.st.length = 8) (W : World) : (binOp .eql 27 (labV l) (labV l)).run Tryz.prog W = .ok (.bool true) W := by
  have h := lab_same l hl W
  unfold labV at h ⊢
  rw [run_eql_struct, h]; rfl
theorem lab_neq (l : Lab) (hl : l.st.length = 8) (W : World) : (binOp .neq 27 (labV l) (labV l)).run Tryz.prog W = .ok (.bool false) W := by
  have h := lab_same l hl W
  unfold labV at h ⊢
  rw [run_neq_struct, h]; rfl

/-- The law's own label. -/
def sampleL : Lab := ⟨[1, 2, 3, 4, 5, 6, 7, 8], 2, 1, 4, 2, 258⟩
theorem sample_any (w : World) : Calls Tryz.prog 31 #[] w fun e w' => e = .returned (labV sampleL) ∧ Below w.heap.size w w' := by
  have h : labV sampleL = .agg #[.int .u8 1, .int .u8 2, .int .u8 3, .int .u8 4, .int .u8 5, .int .u8 6, .int .u8 7, .int .u8 8, .int .i64 2, .int .i64 1, .int .i64 4, .int .i64 2, .int .i64 258] := rfl
  rw [h]
  clear h
  go_enter Tryz.func31, Tryz.ntmps31
  go_wp2
  refine bodyPost_ret (v := .agg #[.int .u8 1, .int .u8 2, .int .u8 3, .int .u8 4, .int .u8 5, .int .u8 6, .int .u8 7, .int .u8 8, .int .i64 2, .int .i64 1, .int .i64 4, .int .i64 2, .int .i64 258]) (by simp only [results, Tryz.results31]; go_simp) rfl ⟨rfl, ?_⟩
  exact (Below.refl _ w).alloc (Nat.le_refl _) _
theorem parse_any (A : Option Addr) (n c : Nat) (bs : List UInt8) (w : World) (B : Nat) (hx : Reads w B 1 A n (bs.map B8)) (hB : B ≤ w.heap.size) (hc : n ≤ c) (hA : n = 31 → ∃ g, A = some ⟨g, 0, none⟩) :
    Calls Tryz.prog 32 #[.slice A n c] w fun e w' => e = .returned (.tuple #[labV (Lab.parse bs).1, .int .i64 (Lab.parse bs).2]) ∧ Below w.heap.size w w' := by
  have hl : bs.length = n := by have := hx.1; simpa using this
  by_cases hn : n = 31
  · obtain ⟨g, rfl⟩ := hA hn
    subst hn
    by_cases hM : bs.take 4 = labMagic
    · exact parse_right g c bs w B hx hB hc hM
    · rw [Lab.parse_bad fun h => hM h.2.1]
      exact parse_magic g c bs w B hx hB hc hM
  · rw [Lab.parse_bad fun h => hn (hl.symm.trans h.1)]
    exact parse_short A n c w hn
end Go.Proofs.YtdiaihpilniikaaGreat
namespace Go.Proofs.YtdiaihpilniikaaGreat
open Go.RowKit Go.Maps

def nT : ByteArray := ⟨#[116]⟩
def nL : ByteArray := ⟨#[108]⟩

set_option maxRecDepth 100000 in
set_option maxHeartbeats 2000000 in
theorem w1_any (b p : Nat) (S : Drv) (F : Nat → Prop) (w : World) (hd : Dr w p S F) (hS : S.Small) (hb : w.cell? ⟨b, 0, none⟩ = some (.iface 31 (.pointer (some ⟨p, 0, none⟩)))) :
    Calls Tryz.prog 45 #[.pointer (some ⟨b, 0, none⟩)] w fun e w' => e = .returned (.int .i64 (S.create [116]).2) ∧ Dr w' p (S.create [116]).1 (grow F w w') ∧ Touch F w w' := by
  have HC := Lib.hid (create_any p S F nT w (by decide) hd hS)
  clear hd hS
  have hm : ∀ W : World, (method 285 31 (.pointer (some ⟨p, 0, none⟩)) "Create").run Tryz.prog W = .ok (127, .pointer (some ⟨p, 0, none⟩)) W := fun _ => by kernel_rfl
  go_enter Tryz.func45, Tryz.ntmps45
  go_wp2_with (go_at_call 127; refine HC.out.mono ?_; rintro e w1 ⟨rfl, h1, h2⟩; have H1 := Lib.hid h1; have H2 := Lib.hid h2; clear h1 h2)
  go_ret
  exact ⟨rfl, H1.out, H2.out⟩

set_option maxRecDepth 100000 in
set_option maxHeartbeats 2000000 in
theorem w2_any (b b2 p : Nat) (S : Drv) (F : Nat → Prop) (w : World) (hd : Dr w p S F) (hS : S.Small) (hb : w.cell? ⟨b, 0, none⟩ = some (.iface 31 (.pointer (some ⟨p, 0, none⟩)))) (A : Option Addr) (c : Nat) (bs : List UInt8) (hb2 : w.cell? ⟨b2, 0, none⟩ = some (.slice A bs.length c)) (hr : Reads w w.heap.size 1 A bs.length (bs.map B8)) (hbs : bs.length ≤ 1000000) :
    Calls Tryz.prog 46 #[.pointer (some ⟨b, 0, none⟩), .pointer (some ⟨b2, 0, none⟩)] w fun e w' => e = .returned (.int .i64 (S.append [116] bs).2) ∧ Dr w' p (S.append [116] bs).1 (grow F w w') ∧ Touch F w w' := by
  have HC := Lib.hid (append_any p S F nT w (by decide) hd hS A c bs hr (by omega))
  clear hd hS hr
  have hm : ∀ W : World, (method 285 31 (.pointer (some ⟨p, 0, none⟩)) "Append").run Tryz.prog W = .ok (126, .pointer (some ⟨p, 0, none⟩)) W := fun _ => by kernel_rfl
  go_enter Tryz.func46, Tryz.ntmps46
  go_wp2_with (go_at_call 126; refine HC.out.mono ?_; rintro e w1 ⟨rfl, h1, h2⟩; have H1 := Lib.hid h1; have H2 := Lib.hid h2; clear h1 h2)
  go_ret
  exact ⟨rfl, H1.out, H2.out⟩

set_option maxRecDepth 100000 in
set_option maxHeartbeats 2000000 in
theorem w3_any (b p : Nat) (S : Drv) (F : Nat → Prop) (w : World) (hd : Dr w p S F) (hS : S.Small) (hb : w.cell? ⟨b, 0, none⟩ = some (.iface 31 (.pointer (some ⟨p, 0, none⟩)))) :
    Calls Tryz.prog 47 #[.pointer (some ⟨b, 0, none⟩)] w fun e w' => e = .returned (.int .i64 (S.sync [116]).2) ∧ Dr w' p (S.sync [116]).1 (grow F w w') ∧ Touch F w w' := by
  have HC := Lib.hid (sync_any p S F nT w (by decide) hd hS)
  clear hd hS
  have hm : ∀ W : World, (method 285 31 (.pointer (some ⟨p, 0, none⟩)) "Sync").run Tryz.prog W = .ok (129, .pointer (some ⟨p, 0, none⟩)) W := fun _ => by kernel_rfl
  go_enter Tryz.func47, Tryz.ntmps47
  go_wp2_with (go_at_call 129; refine HC.out.mono ?_; rintro e w1 ⟨rfl, h1, h2⟩; have H1 := Lib.hid h1; have H2 := Lib.hid h2; clear h1 h2)
  go_ret
  exact ⟨rfl, H1.out, H2.out⟩

set_option maxRecDepth 100000 in
set_option maxHeartbeats 2000000 in
theorem w4_any (b b2 p : Nat) (S : Drv) (F : Nat → Prop) (w : World) (hd : Dr w p S F) (hS : S.Small) (hb : w.cell? ⟨b, 0, none⟩ = some (.iface 31 (.pointer (some ⟨p, 0, none⟩)))) (hb2 : w.cell? ⟨b2, 0, none⟩ = some (.string ⟨#[108]⟩)) :
    Calls Tryz.prog 48 #[.pointer (some ⟨b, 0, none⟩), .pointer (some ⟨b2, 0, none⟩)] w fun e w' => e = .returned (.int .i64 (S.rename [116] [108]).2) ∧ Dr w' p (S.rename [116] [108]).1 (grow F w w') ∧ Touch F w w' := by
  have HC := Lib.hid (rename_any p S F nT nL w (by decide) (by decide) hd hS)
  clear hd hS
  have hm : ∀ W : World, (method 285 31 (.pointer (some ⟨p, 0, none⟩)) "Rename").run Tryz.prog W = .ok (128, .pointer (some ⟨p, 0, none⟩)) W := fun _ => by kernel_rfl
  go_enter Tryz.func48, Tryz.ntmps48
  go_wp2_with (go_at_call 128; refine HC.out.mono ?_; rintro e w1 ⟨rfl, h1, h2⟩; have H1 := Lib.hid h1; have H2 := Lib.hid h2; clear h1 h2)
  go_ret
  exact ⟨rfl, H1.out, H2.out⟩
end Go.Proofs.YtdiaihpilniikaaGreat
namespace Go.Proofs.YtdiaihpilniikaaGreat
open Go.RowKit Go.Maps

theorem look_any (p : Nat) (w : World) : Calls Tryz.prog 44 #[.iface 31 (.pointer (some ⟨p, 0, none⟩)), .string ⟨#[108]⟩] w fun e w' => e = .returned (.int .i64 0) ∧ w = w' := by
  go_enter Tryz.func44, Tryz.ntmps44
  go_wp2
  go_ret
  exact ⟨rfl, rfl⟩
def wst (S S1 S2 S3 S4 : Drv) : Nat → Drv
  | 0 => S
  | 1 => S1
  | 2 => S2
  | 3 => S3
  | 4 => S4
  | _ => S4.syncDir

set_option maxRecDepth 100000 in
set_option maxHeartbeats 8000000 in
theorem dwrite_any (p : Nat) (S S1 S2 S3 S4 : Drv) (F : Nat → Prop) (A : Option Addr) (c : Nat) (bs : List UInt8) (w : World) (hd : Dr w p S F) (hF : ∀ k, F k → k < w.heap.size)
    (hr : ∀ W, Touch F w W → Reads W W.heap.size 1 A bs.length (bs.map B8)) (hbs : bs.length ≤ 1000000) (s0 : S.Small) (s1 : S1.Small) (s2 : S2.Small) (s3 : S3.Small)
    (h1 : S.create [116] = (S1, 0)) (h2 : S1.append [116] bs = (S2, 0)) (h3 : S2.sync [116] = (S3, 0)) (h4 : S3.rename [116] [108] = (S4, 0)) :
    Calls Tryz.prog 18 #[.iface 31 (.pointer (some ⟨p, 0, none⟩)), .string ⟨#[108]⟩, .slice A bs.length c] w fun e w' => e = .returned (.int .i64 0) ∧ Dr w' p S4.syncDir (grow F w w') ∧ Touch F w w' := by
  have hmf : ∀ (fn : Fn) (first cap : Array Value) (w : World), (Instr.makeFunc fn first cap).run Tryz.prog w = .ok (.func fn first cap) w := fun _ _ _ _ => rfl
  have hm : ∀ W : World, (method 285 31 (.pointer (some ⟨p, 0, none⟩)) "SyncDir").run Tryz.prog W = .ok (130, .pointer (some ⟨p, 0, none⟩)) W := fun _ => by kernel_rfl
  have HD := Lib.hid hd
  have HF := Lib.hid hF
  have HR := Lib.hid hr
  have HS := Lib.hid (And.intro s0 (And.intro s1 (And.intro s2 s3)))
  have HH := Lib.hid (And.intro h1 (And.intro h2 (And.intro h3 h4)))
  have HBS := Lib.hid hbs
  clear hd hF hr s0 s1 s2 s3 h1 h2 h3 h4 hbs
  go_enter Tryz.func18, Tryz.ntmps18
  go_wp2_with (go_at_call 44; refine (look_any p _).mono ?_; rintro e w' ⟨rfl, rfl⟩)
  refine wp_world fun X hX => ?_
  have HK0 : Hid (Blk X w.heap.size 79 #[.iface 31 (.pointer (some ⟨p, 0, none⟩))]) := Lib.hid (by rw [hX]; exact (((Blk.new w _ _).alloc _).alloc _).alloc _)
  have HK1 : Hid (Blk X (w.heap.size + 1) 9 #[.string ⟨#[108]⟩]) := Lib.hid (by rw [hX]; exact ((blk_last _ _ _ _ (by simp only [alloc_size])).alloc _).alloc _)
  have HK2 : Hid (Blk X (w.heap.size + 1 + 1) 22 #[.slice A bs.length c]) := Lib.hid (by rw [hX]; exact (blk_last _ _ _ _ (by simp only [alloc_size])).alloc _)
  have HK3 : Hid (Blk X (w.heap.size + 1 + 1 + 1) 88 #[.func (.func 45) #[] #[.pointer (some ⟨w.heap.size, 0, none⟩)], .func (.func 46) #[] #[.pointer (some ⟨w.heap.size, 0, none⟩), .pointer (some ⟨w.heap.size + 1 + 1, 0, none⟩)], .func (.func 47) #[] #[.pointer (some ⟨w.heap.size, 0, none⟩)], .func (.func 48) #[] #[.pointer (some ⟨w.heap.size, 0, none⟩), .pointer (some ⟨w.heap.size + 1, 0, none⟩)], .func (.method "SyncDir") #[.iface 31 (.pointer (some ⟨p, 0, none⟩))] #[]]) := Lib.hid (by rw [hX]; exact blk_last _ _ _ _ (by simp only [alloc_size]))
  have HBX : Hid (Below w.heap.size w X) := Lib.hid (by rw [hX]; exact ((((Below.refl _ w).alloc (Nat.le_refl _) _).alloc (by simp only [alloc_size]; omega) _).alloc (by simp only [alloc_size]; omega) _).alloc (by simp only [alloc_size]; omega) _)
  have HXS : Hid (w.heap.size ≤ X.heap.size) := Lib.hid HBX.out.size
  clear hX
  have HN : Hid (∀ i, w.heap.size ≤ i → ¬F i) := Lib.hid fun i hi hf => by have := HF.out i hf; omega
  have HWT : Hid (∀ W, Touch F X W → Touch F w W) := Lib.hid fun W h => (Touch.of_below HBX.out).trans (h.mono fun i _ hi => .inl hi)
  go_loopw [9, 10, 26] (fun _ _ s26 wr => ∃ k : Nat, k ≤ 5 ∧ s26 = .int .i64 k ∧ Dr wr p (wst S S1 S2 S3 S4 k) (grow F X wr) ∧ Touch F X wr) (fun _ _ s _ => 5 - (intOf s).toNat)
  case atStart => exact ⟨0, Nat.zero_le _, rfl, (HD.out.below HBX.out).mono fun i hi => .inl hi, Touch.refl _ _⟩
  case round =>
    obtain ⟨k, hk, rfl, hd, ht⟩ := hrel
    have HD1 := Lib.hid hd
    have HT1 := Lib.hid ht
    have hsz := ht.size
    have c0 : wr.cell? ⟨w.heap.size, 0, none⟩ = some (.iface 31 (.pointer (some ⟨p, 0, none⟩))) := (HK0.out.touch ht (HN.out _ (by omega))).cell 0
    have c1 : wr.cell? ⟨w.heap.size + 1, 0, none⟩ = some (.string ⟨#[108]⟩) := (HK1.out.touch ht (HN.out _ (by omega))).cell 0
    have c2 : wr.cell? ⟨w.heap.size + 1 + 1, 0, none⟩ = some (.slice A bs.length c) := (HK2.out.touch ht (HN.out _ (by omega))).cell 0
    have HK3r := Lib.hid (HK3.out.touch ht (HN.out _ (by omega)))
    have HC0 := Lib.hid c0
    have HC1 := Lib.hid c1
    have HC2 := Lib.hid c2
    clear hd ht c0 c1 c2
    by_cases hlt : k < 5
    · obtain rfl | rfl | rfl | rfl | rfl : k = 0 ∨ k = 1 ∨ k = 2 ∨ k = 3 ∨ k = 4 := by omega
      · have y : wr.cell? ⟨w.heap.size + 1 + 1 + 1, 0, none⟩ = some (.func (.func 45) #[] #[.pointer (some ⟨w.heap.size, 0, none⟩)]) := HK3r.out.cell 0
        go_wp2_with (go_at_call 45; refine (w1_any w.heap.size p S _ wr HD1.out HS.out.1 HC0.out).mono ?_; rw [HH.out.1]; rintro e w1 ⟨rfl, hd1, ht1⟩; have HD2 := Lib.hid hd1; have HT2 := Lib.hid ht1; clear hd1 ht1)
        go_roundw
        case rel => exact ⟨1, by omega, by go_num, HD2.out.mono fun i hi => (grow_trans hsz HT2.out.size i).1 hi, HT1.out.trans HT2.out⟩
        case measure => first | (simp [intOf]; done) | (simp [intOf]; omega)
      · have y : wr.cell? ⟨w.heap.size + 1 + 1 + 1, 1, none⟩ = some (.func (.func 46) #[] #[.pointer (some ⟨w.heap.size, 0, none⟩), .pointer (some ⟨w.heap.size + 1 + 1, 0, none⟩)]) := HK3r.out.cell 1
        go_wp2_with (go_at_call 46; refine (w2_any w.heap.size (w.heap.size + 1 + 1) p S1 _ wr HD1.out HS.out.2.1 HC0.out A c bs HC2.out (HR.out wr (HWT.out wr HT1.out)) HBS.out).mono ?_; rw [HH.out.2.1]; rintro e w1 ⟨rfl, hd1, ht1⟩; have HD2 := Lib.hid hd1; have HT2 := Lib.hid ht1; clear hd1 ht1)
        go_roundw
        case rel => exact ⟨2, by omega, by go_num, HD2.out.mono fun i hi => (grow_trans hsz HT2.out.size i).1 hi, HT1.out.trans HT2.out⟩
        case measure => first | (simp [intOf]; done) | (simp [intOf]; omega)
      · have y : wr.cell? ⟨w.heap.size + 1 + 1 + 1, 2, none⟩ = some (.func (.func 47) #[] #[.pointer (some ⟨w.heap.size, 0, none⟩)]) := HK3r.out.cell 2
        go_wp2_with (go_at_call 47; refine (w3_any w.heap.size p S2 _ wr HD1.out HS.out.2.2.1 HC0.out).mono ?_; rw [HH.out.2.2.1]; rintro e w1 ⟨rfl, hd1, ht1⟩; have HD2 := Lib.hid hd1; have HT2 := Lib.hid ht1; clear hd1 ht1)
        go_roundw
        case rel => exact ⟨3, by omega, by go_num, HD2.out.mono fun i hi => (grow_trans hsz HT2.out.size i).1 hi, HT1.out.trans HT2.out⟩
        case measure => first | (simp [intOf]; done) | (simp [intOf]; omega)
      · have y : wr.cell? ⟨w.heap.size + 1 + 1 + 1, 3, none⟩ = some (.func (.func 48) #[] #[.pointer (some ⟨w.heap.size, 0, none⟩), .pointer (some ⟨w.heap.size + 1, 0, none⟩)]) := HK3r.out.cell 3
        go_wp2_with (go_at_call 48; refine (w4_any w.heap.size (w.heap.size + 1) p S3 _ wr HD1.out HS.out.2.2.2 HC0.out HC1.out).mono ?_; rw [HH.out.2.2.2]; rintro e w1 ⟨rfl, hd1, ht1⟩; have HD2 := Lib.hid hd1; have HT2 := Lib.hid ht1; clear hd1 ht1)
        go_roundw
        case rel => exact ⟨4, by omega, by go_num, HD2.out.mono fun i hi => (grow_trans hsz HT2.out.size i).1 hi, HT1.out.trans HT2.out⟩
        case measure => first | (simp [intOf]; done) | (simp [intOf]; omega)
      · have y : wr.cell? ⟨w.heap.size + 1 + 1 + 1, 4, none⟩ = some (.func (.method "SyncDir") #[.iface 31 (.pointer (some ⟨p, 0, none⟩))] #[]) := HK3r.out.cell 4
        go_wp2_with (go_at_call 130; refine (syncDir_any p S4 _ wr HD1.out).mono ?_; rintro e w1 ⟨rfl, hd1, ht1⟩; have HD2 := Lib.hid hd1; have HT2 := Lib.hid ht1; clear hd1 ht1)
        go_roundw
        case rel => exact ⟨5, by omega, by go_num, HD2.out.mono fun i hi => (grow_trans hsz HT2.out.size i).1 hi, HT1.out.trans HT2.out⟩
        case measure => first | (simp [intOf]; done) | (simp [intOf]; omega)
    · obtain rfl : k = 5 := by omega
      go_wp2
      go_ret
      refine ⟨rfl, HD1.out.mono fun i hi => ?_, HWT.out wr HT1.out⟩
      rcases hi with hi | ⟨h1, h2⟩
      · exact .inl hi
      · exact .inr ⟨Nat.le_trans HXS.out h1, h2⟩
end Go.Proofs.YtdiaihpilniikaaGreat

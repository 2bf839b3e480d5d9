/- A world of one place: both drives are loaded.; A world of one place: both drives are loaded, and hurt.; One writing and a loss of power: the plain law. No program walked. -/
import Derived.Test.YtcbebefdbdppdaaGreatM45
import Derived.Test.YtcbebefdbdppdaaGreatM29
import Derived.Test.YtcbebefdbdppdaaGreatM23
import Derived.Test.YtcbebefdbdppdaaGreatM39
import Derived.Test.YtcbebefdbdppdaaGreatM24
namespace Go.Proofs.YtcbebefdbdppdaaGreat
open Go.RowKit Go.Maps
theorem wnew_no (w : World) : Calls Tryz.prog 11 #[.pointer none] w fun e w' => e = .returned (.pointer none) ∧ w = w' := by
  go_enter Tryz.func11, Tryz.ntmps11
  go_wp2
  go_ret
  exact ⟨rfl, rfl⟩
theorem dload_any (r : Int) (fs : List File) (vals : List Value) (A : Option Addr) (c : Nat) (w : World) (hin : FilesIn w A fs vals) (hsp : ∀ ad, A = some ad → 0 < fs.length → ad.spot = none) (hfs : fs.length ≤ 1099511627776) (htot : Drv.total fs ≤ 140737488351232) (hnl : ∀ f ∈ fs, f.1.length ≤ 1099511627776) (n : Nat) (hn : n = fs.length) :
    Calls Tryz.prog 29 #[.int .i64 r, .slice A n c] w fun e w' => (loadOk r fs = true → ∃ p, e = .returned (.pointer (some ⟨p, 0, none⟩)) ∧ Dr w' p ((Drv.new r.toNat).loadK fs) (fun k => w.heap.size ≤ k ∧ k < w'.heap.size)) ∧ (loadOk r fs = false → e = .returned (.pointer none)) ∧ Below w.heap.size w w' := by
  subst hn
  by_cases hr : 0 ≤ r ∧ r ≤ 1073741824
  · obtain ⟨hr0, hr1⟩ := hr
    have hlo : loadOk r fs = (Drv.new r.toNat).loads fs := by unfold loadOk; rw [decide_eq_true ⟨hr0, hr1⟩]; rfl
    rw [hlo]
    have h := load_any r.toNat (by omega) fs vals A c w hin hsp hfs htot hnl
    rw [show ((r.toNat : Nat) : Int) = r by omega] at h
    exact h
  · have hno : loadOk r fs = false := by unfold loadOk; rw [decide_eq_false hr]; rfl
    rw [hno]
    have HN := Lib.hid (new_bad r w (by omega))
    clear hin hsp hfs htot hnl hno hr
    go_enter Tryz.func29, Tryz.ntmps29
    go_wp2_with (go_at_call 12; refine HN.out.mono ?_; rintro e w' ⟨rfl, rfl⟩)
    go_ret
    exact ⟨fun h => (by cases h), fun _ => rfl, Below.refl _ _⟩
structure PPlace where
  there : Bool
  room : Int
  files : List File
  plan : List (Int × Int)
  off : Bool
  fused : Bool
  round : Int
  call : Int
  inside : Int
structure PlLay where
  fa : Option Addr
  fc : Nat
  pa : Option Addr
  pc : Nat
def placeCells (x : PPlace) (L : PlLay) : List Value := [.bool x.there, .int .i64 x.room, .slice L.fa x.files.length L.fc, .slice L.pa x.plan.length L.pc, .bool x.off, .bool x.fused, .int .i64 x.round, .int .i64 x.call, .int .i64 x.inside]
def PPlace.ok (x : PPlace) : Bool := x.there && loadOk x.room x.files
def PPlace.wnd (x : PPlace) : Wnd :=
  if x.fused = true then ({ Wnd.new.arm x.plan with away := x.off } : Wnd).setFuse x.round x.call x.inside else { Wnd.new.arm x.plan with away := x.off }
def PPlace.drv (x : PPlace) : Drv := (Drv.new x.room.toNat).loadK x.files
structure PlaceIn (w : World) (x : PPlace) (L : PlLay) : Prop where
  files : ∃ vals, FilesIn w L.fa x.files vals
  spot : ∀ ad, L.fa = some ad → 0 < x.files.length → ad.spot = none
  plan : Reads w w.heap.size 2 L.pa x.plan.length (planCells x.plan)
  nf : x.files.length ≤ 1099511627776
  tot : Drv.total x.files ≤ 140737488351232
  nl : ∀ f ∈ x.files, f.1.length ≤ 1099511627776
  np : x.plan.length * 16 ≤ 140737488351232
  pl : ∀ ad, L.pa = some ad → 0 < x.plan.length → ad.block < w.heap.size
  npc : x.plan.length ≤ L.pc
theorem pdiskInfo : (Tryz.prog.info? 114).map (fun i => (i.zero, i.size, i.bytes)) = some (some (.pointer none), 1, 8) := by kernel_rfl
theorem pwoundInfo : (Tryz.prog.info? 36).map (fun i => (i.zero, i.size, i.bytes)) = some (some (.pointer none), 1, 8) := by kernel_rfl
theorem idiskInfo : (Tryz.prog.info? 72).map (fun i => (i.zero, i.size, i.bytes)) = some (some .nilIface, 1, 16) := by kernel_rfl
structure BothIn (W : World) (B0 B1 : Nat) (d u m : Value) : Prop where
  r : Blk W B0 67 #[.slice none 0 0, .slice none 0 0, .slice none 0 0]
  b : Blk W B1 67 #[d, u, m]
  ne : B0 ≠ B1
theorem BothIn.grown {W w1 : World} {B0 B1 : Nat} {d u m : Value} {o : Obj} (h : BothIn W B0 B1 d u m) (hg : (W.alloc o).grownBy w1 (Value.slice none 0 0).ownBlock) : BothIn w1 B0 B1 d u m :=
  ⟨(h.r.alloc o).grown hg (by simp [Value.ownBlock]), (h.b.alloc o).grown hg (by simp [Value.ownBlock]), h.ne⟩
theorem BothIn.setM {W : World} {B0 B1 : Nat} {d u m : Value} (h : BothIn W B0 B1 d u m) (v : Value) : BothIn (W.setCell ⟨B1, 2, none⟩ v) B0 B1 d u v :=
  ⟨h.r.far (by show B0 ≠ B1; exact h.ne) _, h.b.set_ 2 v, h.ne⟩
theorem BothIn.setU {W : World} {B0 B1 : Nat} {d u m : Value} (h : BothIn W B0 B1 d u m) (v : Value) : BothIn (W.setCell ⟨B1, 1, none⟩ v) B0 B1 d v m :=
  ⟨h.r.far (by show B0 ≠ B1; exact h.ne) _, h.b.set_ 1 v, h.ne⟩
theorem BothIn.setD {W : World} {B0 B1 : Nat} {d u m : Value} (h : BothIn W B0 B1 d u m) (v : Value) : BothIn (W.setCell ⟨B1, 0, none⟩ v) B0 B1 v u m :=
  ⟨h.r.far (by show B0 ≠ B1; exact h.ne) _, h.b.set_ 0 v, h.ne⟩
theorem cell3 (a b c : Value) : (#[a, b, c] : Array Value)[0]? = some a ∧ (#[a, b, c] : Array Value)[1]? = some b ∧ (#[a, b, c] : Array Value)[2]? = some c := ⟨rfl, rfl, rfl⟩
theorem BothIn.fin3 {W : World} {B0 B1 : Nat} {d u m : Value} (h : BothIn W B0 B1 d u m) (D U M : Value) {base size n : Nat} {e : TypeId} {v : Value} {xs : List Value} (hr : W.ownsRow base e size v n xs) (hne : e ≠ 67) :
    (((W.setCell ⟨B0, 0, none⟩ D).setCell ⟨B0, 1, none⟩ U).setCell ⟨B0, 2, none⟩ M).ownsRow base e size v n xs :=
  row_set (row_set (row_set hr h.r hne 0 D) (h.r.set_ 0 D) hne 1 U) ((h.r.set_ 0 D).set_ 1 U) hne 2 M
theorem fin3_touch (W : World) (B0 : Nat) (D U M : Value) : Touch (· = B0) W (((W.setCell ⟨B0, 0, none⟩ D).setCell ⟨B0, 1, none⟩ U).setCell ⟨B0, 2, none⟩ M) :=
  by
  iterate 3 (refine Touch.then_ ?_ (Touch.setCell _ _ _ rfl))
  exact Touch.refl _ _
theorem own_one {w : World} {base c : Nat} {e : TypeId} {a : Option Addr} {x : Value} (h : w.ownsRow base e 1 (.slice a 1 c) 1 [x]) : ∃ g, a = some ⟨g, 0, none⟩ ∧ base ≤ g ∧ g < w.heap.size ∧ w.cell? ⟨g, 0, none⟩ = some x ∧ 1 ≤ c := by
  obtain ⟨g, cap, hv, hb, hl⟩ := h.form (by omega)
  injection hv with hv _ hc
  subst hv
  refine ⟨g, rfl, hb, hl, ?_, ?_⟩
  · have := h.cells (g := g) rfl 0 x rfl
    simpa [add_plain] using this
  · obtain ⟨a', c', e', hle⟩ := own_shape h
    injection e' with _ _ e3
    omega
set_option maxRecDepth 100000 in
set_option maxHeartbeats 8000000 in
theorem make_no (w : World) (x : PPlace) (L : PlLay) (hx : PlaceIn w x L) (hno : x.ok = false) (gp op cp : Nat) (hpl : gp < w.heap.size) (hcp : 1 ≤ cp) (hcells : ∀ j u, (placeCells x L)[j]? = some u → w.cell? ⟨gp, op + j, none⟩ = some u) :
    Calls Tryz.prog 22 #[.slice (some ⟨gp, op, none⟩) 1 cp] w fun e w' => ∃ dg dc wg wc mg mc, e = .returned (.tuple #[bothV dg dc wg wc mg mc, .bool true]) ∧ w'.cell? ⟨dg, 0, none⟩ = some Value.nilIface ∧ w'.cell? ⟨wg, 0, none⟩ = some (.pointer none) ∧ w'.cell? ⟨mg, 0, none⟩ = some (.pointer none) ∧ Caps dc wc mc ∧ Below w.heap.size w w' := by
  obtain ⟨there, room, fs, plan, off, fused, R, C, I⟩ := x
  obtain ⟨fa, fc, pa, pc⟩ := L
  unfold placeCells at hcells
  simp only at hcells
  have p0 : w.cell? ⟨gp, op, none⟩ = some (.bool there) := hcells 0 _ rfl
  have p1 : w.cell? ⟨gp, op + 1, none⟩ = some (.int .i64 room) := hcells 1 _ rfl
  have p2 : w.cell? ⟨gp, op + 2, none⟩ = some (.slice fa fs.length fc) := hcells 2 _ rfl
  have p3 : w.cell? ⟨gp, op + 3, none⟩ = some (.slice pa plan.length pc) := hcells 3 _ rfl
  have p4 : w.cell? ⟨gp, op + 4, none⟩ = some (.bool off) := hcells 4 _ rfl
  have p5 : w.cell? ⟨gp, op + 5, none⟩ = some (.bool fused) := hcells 5 _ rfl
  have p6 : w.cell? ⟨gp, op + 6, none⟩ = some (.int .i64 R) := hcells 6 _ rfl
  have p7 : w.cell? ⟨gp, op + 7, none⟩ = some (.int .i64 C) := hcells 7 _ rfl
  have p8 : w.cell? ⟨gp, op + 8, none⟩ = some (.int .i64 I) := hcells 8 _ rfl
  have HX := Lib.hid hx
  clear hx hcells
  cases there with
  | false =>
    clear hno
    obtain ⟨iM, hiM, hz0M, hz1M, hz2M⟩ := info_parts pdiskInfo
    obtain ⟨iU, hiU, hz0U, hz1U, hz2U⟩ := info_parts pwoundInfo
    obtain ⟨iD, hiD, hz0D, hz1D, hz2D⟩ := info_parts idiskInfo
    go_enter Tryz.func22, Tryz.ntmps22
    go_wp2
    refine wp_loop_rounds 2 ?_
    rw [rounds_succ]
    go_upto_region 13 with fail
    refine wp_world fun W hW => ?_
    have HBI0 : Hid (BothIn W w.heap.size (w.heap.size + 1) (.slice none 0 0) (.slice none 0 0) (.slice none 0 0)) := Lib.hid (by rw [hW]; exact ⟨((blk_last w _ _ _ rfl).alloc _).alloc _, (blk_last (w.alloc _) _ _ _ (by simp)).alloc _, by omega⟩)
    have e0 := HBI0.out.b.cell 0
    have e1 := HBI0.out.b.cell 1
    have e2 := HBI0.out.b.cell 2
    simp at e0 e1 e2
    have ef := HBI0.out.b.frozen
    have el : w.heap.size + 1 < W.heap.size := HBI0.out.b.lt
    have HBW : Hid (Below w.heap.size w W) := Lib.hid (by rw [hW]; exact (((Below.refl _ w).alloc (Nat.le_refl _) _).alloc (by simp) _).alloc (by simp; omega) _)
    clear hW
    go_wp2_with (first
      | (at_builtin; (refine wpList_append_any _ (by rfl) (.tmp 41) (.tmp 43) 65 (by rfl) W.heap.size 114 iM _ 1 8 Tryz.underlying65 hiM hz0M hz1M hz2M rfl (by omega) (.slice none 0 0) 0 [] (by rfl) (World.ownsRow_nil _ _ _ _) (W.heap.size + 1) (some ⟨W.heap.size, 0, none⟩) 1 1 [.pointer none] (by rfl) (by exact reads_blk (t := 114) (blk_last _ _ _ _ rfl) (by omega) rfl) (by intro u hu; simp at hu; subst hu; rfl) (by simp only [maxLen]; omega) (by omega) (by simp) ?_); intro vwm wm hown hg hat; obtain ⟨awm, cwm, rfl, _⟩ := own_shape hown; rw [Nat.zero_add, List.nil_append] at hown; go_must (have biwm := (HBI0.out).grown hg; have Owm := Lib.hid hown; have BIwm := Lib.hid biwm; have ewm0 := biwm.b.cell 0; have ewm1 := biwm.b.cell 1; have ewm2 := biwm.b.cell 2; simp at ewm0 ewm1 ewm2; have ewmf := biwm.b.frozen; have rwm0 := biwm.r.cell 0; have rwm1 := biwm.r.cell 1; have rwm2 := biwm.r.cell 2; simp at rwm0 rwm1 rwm2; have rwmf := biwm.r.frozen; have rwml : w.heap.size < wm.heap.size := biwm.r.lt; have ewml : w.heap.size + 1 < wm.heap.size := biwm.b.lt; have HGwm := Lib.hid hg; have hswm : W.heap.size < wm.heap.size := (by have h9 := hg.size; simp only [alloc_size, size_set'] at h9; omega); clear hown hg hat biwm))
      | (at_builtin; (refine wpList_append_any _ (by rfl) (.tmp 47) (.tmp 49) 64 (by rfl) wm.heap.size 36 iU _ 1 8 Tryz.underlying64 hiU hz0U hz1U hz2U rfl (by omega) (.slice none 0 0) 0 [] (by rfl) (World.ownsRow_nil _ _ _ _) (wm.heap.size + 1) (some ⟨wm.heap.size, 0, none⟩) 1 1 [.pointer none] (by rfl) (by exact reads_blk (t := 36) (blk_last _ _ _ _ (size_set' _ _ _).symm) (by omega) rfl) (by intro u hu; simp at hu; subst hu; rfl) (by simp only [maxLen]; omega) (by omega) (by simp) ?_); intro vwu wu hown hg hat; obtain ⟨awu, cwu, rfl, _⟩ := own_shape hown; rw [Nat.zero_add, List.nil_append] at hown; go_must (have biwu := (BIwm.out.setM (.slice awm 1 cwm)).grown hg; have Owu := Lib.hid hown; have Owm2 : Hid (wu.ownsRow W.heap.size 114 1 (.slice awm 1 cwm) 1 [.pointer none]) := Lib.hid (((row_set Owm.out BIwm.out.b (by decide) 2 (.slice awm 1 cwm)).alloc _).kept hg (own_or_none _)); have BIwu := Lib.hid biwu; have ewu0 := biwu.b.cell 0; have ewu1 := biwu.b.cell 1; have ewu2 := biwu.b.cell 2; simp at ewu0 ewu1 ewu2; have ewuf := biwu.b.frozen; have rwu0 := biwu.r.cell 0; have rwu1 := biwu.r.cell 1; have rwu2 := biwu.r.cell 2; simp at rwu0 rwu1 rwu2; have rwuf := biwu.r.frozen; have rwul : w.heap.size < wu.heap.size := biwu.r.lt; have ewul : w.heap.size + 1 < wu.heap.size := biwu.b.lt; have HGwu := Lib.hid hg; have hswu : wm.heap.size < wu.heap.size := (by have h9 := hg.size; simp only [alloc_size, size_set'] at h9; omega); clear hown hg hat biwu))
      | (at_builtin; (refine wpList_append_any _ (by rfl) (.tmp 55) (.tmp 56) 63 (by rfl) wu.heap.size 72 iD _ 1 16 Tryz.underlying63 hiD hz0D hz1D hz2D rfl (by omega) (.slice none 0 0) 0 [] (by rfl) (World.ownsRow_nil _ _ _ _) (wu.heap.size + 1) (some ⟨wu.heap.size, 0, none⟩) 1 1 [Value.nilIface] (by rfl) (by exact reads_blk (t := 72) (blk_last _ _ _ _ (size_set' _ _ _).symm) (by omega) rfl) (by intro u hu; simp at hu; subst hu; rfl) (by simp only [maxLen]; omega) (by omega) (by simp) ?_); intro vwd wd hown hg hat; obtain ⟨awd, cwd, rfl, _⟩ := own_shape hown; rw [Nat.zero_add, List.nil_append] at hown; go_must (have biwd := (BIwu.out.setU (.slice awu 1 cwu)).grown hg; have Owd := Lib.hid hown; have Owm3 : Hid (wd.ownsRow W.heap.size 114 1 (.slice awm 1 cwm) 1 [.pointer none]) := Lib.hid (((row_set Owm2.out BIwu.out.b (by decide) 1 (.slice awu 1 cwu)).alloc _).kept hg (own_or_none _)); have Owu3 : Hid (wd.ownsRow wm.heap.size 36 1 (.slice awu 1 cwu) 1 [.pointer none]) := Lib.hid (((row_set Owu.out BIwu.out.b (by decide) 1 (.slice awu 1 cwu)).alloc _).kept hg (own_or_none _)); have BIwd := Lib.hid biwd; have ewd0 := biwd.b.cell 0; have ewd1 := biwd.b.cell 1; have ewd2 := biwd.b.cell 2; simp at ewd0 ewd1 ewd2; have ewdf := biwd.b.frozen; have rwd0 := biwd.r.cell 0; have rwd1 := biwd.r.cell 1; have rwd2 := biwd.r.cell 2; simp at rwd0 rwd1 rwd2; have rwdf := biwd.r.frozen; have rwdl : w.heap.size < wd.heap.size := biwd.r.lt; have ewdl : w.heap.size + 1 < wd.heap.size := biwd.b.lt; have HGwd := Lib.hid hg; have hswd : wu.heap.size < wd.heap.size := (by have h9 := hg.size; simp only [alloc_size, size_set'] at h9; omega); clear hown hg hat biwd)))
    rw [rounds_succ]
    go_wp2
    refine bodyPost_ret (v := .tuple #[.agg #[.slice awd 1 cwd, .slice awu 1 cwu, .slice awm 1 cwm], .bool true]) (by simp only [results, Tryz.results22]; go_simp) rfl ?_
    have bD := BIwd.out.setD (.slice awd 1 cwd)
    obtain ⟨gD, rfl, _, _, xD, kD⟩ := own_one (bD.fin3 (.slice awd 1 cwd) (.slice awu 1 cwu) (.slice awm 1 cwm) (row_set Owd.out BIwd.out.b (by decide) 0 (.slice awd 1 cwd)) (by decide))
    obtain ⟨gU, rfl, _, _, xU, kU⟩ := own_one (bD.fin3 (.slice (some ⟨gD, 0, none⟩) 1 cwd) (.slice awu 1 cwu) (.slice awm 1 cwm) (row_set Owu3.out BIwd.out.b (by decide) 0 (.slice (some ⟨gD, 0, none⟩) 1 cwd)) (by decide))
    obtain ⟨gM, rfl, _, _, xM, kM⟩ := own_one (bD.fin3 (.slice (some ⟨gD, 0, none⟩) 1 cwd) (.slice (some ⟨gU, 0, none⟩) 1 cwu) (.slice awm 1 cwm) (row_set Owm3.out BIwd.out.b (by decide) 0 (.slice (some ⟨gD, 0, none⟩) 1 cwd)) (by decide))
    refine ⟨gD, cwd, gU, cwu, gM, cwm, rfl, xD, xU, xM, ⟨kD, kU, kM⟩, ?_⟩
    have b1 : Below w.heap.size w wm := (HBW.out.alloc (by omega) _).grown HGwm.out (by simp; omega) (fun k hk => by simp [Value.ownBlock] at hk)
    have b2 : Below w.heap.size w wu := ((b1.setCell (by simp) _).alloc (by simp; omega) _).grown HGwu.out (by simp; omega) (fun k hk => by simp [Value.ownBlock] at hk)
    have b3 : Below w.heap.size w wd := ((b2.setCell (by simp) _).alloc (by simp; omega) _).grown HGwd.out (by simp; omega) (fun k hk => by simp [Value.ownBlock] at hk)
    exact (((b3.setCell (by simp) _).setCell (by simp) _).setCell (by simp) _).setCell (by simp) _
  | true =>
    obtain ⟨iM, hiM, hz0M, hz1M, hz2M⟩ := info_parts pdiskInfo
    obtain ⟨iU, hiU, hz0U, hz1U, hz2U⟩ := info_parts pwoundInfo
    obtain ⟨iD, hiD, hz0D, hz1D, hz2D⟩ := info_parts idiskInfo
    have hload : loadOk room fs = false := by simpa [PPlace.ok] using hno
    clear hno
    obtain ⟨vals, hfin⟩ := HX.out.files
    have HFI : Hid (∀ V, Below w.heap.size w V → FilesIn V fa fs vals) := Lib.hid fun V hV => hfin.keep hV
    have HSP : Hid (∀ ad, fa = some ad → 0 < fs.length → ad.spot = none) := Lib.hid HX.out.spot
    have HNF : Hid (fs.length ≤ 1099511627776) := Lib.hid HX.out.nf
    have HTO : Hid (Drv.total fs ≤ 140737488351232) := Lib.hid HX.out.tot
    have HNLN : Hid (∀ f ∈ fs, f.1.length ≤ 1099511627776) := Lib.hid HX.out.nl
    have HLO := Lib.hid hload
    clear hfin hload
    go_enter Tryz.func22, Tryz.ntmps22
    go_wp2
    refine wp_loop_rounds 2 ?_
    rw [rounds_succ]
    go_upto_region 9 with fail
    refine wp_world fun V hV => ?_
    have HBV : Hid (Below w.heap.size w V) := Lib.hid (by rw [hV]; exact (((Below.refl _ w).alloc (Nat.le_refl _) _).alloc (by simp) _).alloc (by simp; omega) _)
    have HBI : Hid (BothIn V w.heap.size (w.heap.size + 1) (.slice none 0 0) (.slice none 0 0) (.slice none 0 0)) := Lib.hid (by rw [hV]; exact ⟨((blk_last w _ _ _ rfl).alloc _).alloc _, (blk_last (w.alloc _) _ _ _ (by simp)).alloc _, by omega⟩)
    have HPB : Hid (Blk V (w.heap.size + 1 + 1) 62 #[.bool true, .int .i64 room, .slice fa fs.length fc, .slice pa plan.length pc, .bool off, .bool fused, .int .i64 R, .int .i64 C, .int .i64 I]) := Lib.hid (by rw [hV]; exact blk_last _ _ _ _ (by simp))
    have q1 : V.cell? ⟨w.heap.size + 1 + 1, 1, none⟩ = some (.int .i64 room) := HPB.out.cell 1
    have q2 : V.cell? ⟨w.heap.size + 1 + 1, 2, none⟩ = some (.slice fa fs.length fc) := HPB.out.cell 2
    have hlV : w.heap.size + 1 + 1 < V.heap.size := HPB.out.lt
    have hVs : V.heap.size = w.heap.size + 3 := by rw [hV]; simp
    clear hV p0 p1 p2 p3 p4 p5 p6 p7 p8
    go_upto_region 10 with (first
      | (go_at_call 74; refine (mload_any room fs vals fa fc _ (HFI.out _ HBV.out) HSP.out HNF.out HTO.out HNLN.out).mono ?_; rintro e w2 ⟨_, hn2, hb2⟩; obtain rfl := hn2 HLO.out; have HB2 := Lib.hid hb2; clear hn2 hb2)
      | (go_at_call 73; refine (mdnew_nil _).mono ?_; rintro e w3 ⟨rfl, rfl⟩))
    have r1 : w2.cell? ⟨w.heap.size + 1 + 1, 1, none⟩ = some (.int .i64 room) := (HB2.out.cell (p := ⟨w.heap.size + 1 + 1, 1, none⟩) hlV).trans q1
    have r2 : w2.cell? ⟨w.heap.size + 1 + 1, 2, none⟩ = some (.slice fa fs.length fc) := (HB2.out.cell (p := ⟨w.heap.size + 1 + 1, 2, none⟩) hlV).trans q2
    have hs2 := HB2.out.size
    have HQ : Hid (∀ Z, Below w2.heap.size w2 Z → Z.cell? ⟨w.heap.size + 1 + 1, 1, none⟩ = some (.int .i64 room) ∧ Z.cell? ⟨w.heap.size + 1 + 1, 2, none⟩ = some (.slice fa fs.length fc)) := Lib.hid fun Z hZ => ⟨(hZ.cell (p := ⟨w.heap.size + 1 + 1, 1, none⟩) (by show w.heap.size + 1 + 1 < _; omega)).trans r1, (hZ.cell (p := ⟨w.heap.size + 1 + 1, 2, none⟩) (by show w.heap.size + 1 + 1 < _; omega)).trans r2⟩
    have HBW2 : Hid (Below w.heap.size w w2) := Lib.hid (HBV.out.trans (HB2.out.mono (by omega)))
    go_region_held3 (fun w' => w'.cell? ⟨w.heap.size + 1 + 1, 1, none⟩ = some (.int .i64 room) ∧ w'.cell? ⟨w.heap.size + 1 + 1, 2, none⟩ = some (.slice fa fs.length fc)) (first | (with_reducible exact HQ3.out) | (with_reducible exact HQ4.out) | go_keep) ((first
      | (go_at_call 75; refine (pfiles_any fs vals fa fc _ (HFI.out _ (below_drew1 HBW2.out)) HSP.out HNF.out HTO.out).mono ?_; rintro e w3 ⟨v3, rfl, hf3, hb3'⟩; obtain ⟨A3, c3, vals3, rfl, hin3, hsp3⟩ := hf3.filesIn; have hb3 : Below w2.heap.size w2 w3 := ⟨hb3'.os, hb3'.tape, hb3'.output, hb3'.size, hb3'.block⟩; have HB3 := Lib.hid hb3; have HIN3 := Lib.hid hin3; have HSP3 := Lib.hid hsp3; have HQ3 := Lib.hid (HQ.out _ hb3); clear hf3 hb3' hin3 hsp3 hb3)
      | (go_at_call 29; refine (dload_any room fs vals3 A3 c3 _ HIN3.out (fun ad e _ => HSP3.out ad e) HNF.out HTO.out HNLN.out _ rfl).mono ?_; rintro e w4 ⟨_, hn4, hb4⟩; obtain rfl := hn4 HLO.out; have hb24 : Below w2.heap.size w2 w4 := HB3.out.trans (hb4.mono HB3.out.size); have HB4 := Lib.hid hb24; have HQ4 := Lib.hid (HQ.out _ hb24); clear hn4 hb4 hb24)
      | (go_at_call 11; refine (wnew_no _).mono ?_; rintro e w5 ⟨rfl, rfl⟩)
      | fail))
    all_goals (
      go_upto_region 13 with fail
      refine wp_world fun W hW => ?_
      have hVW : Below V.heap.size V W := by rw [hW]; exact HB2.out.trans (HB4.out.mono hs2)
      have HBI0 : Hid (BothIn W w.heap.size (w.heap.size + 1) (.slice none 0 0) (.slice none 0 0) (.slice none 0 0)) := Lib.hid ⟨HBI.out.r.below hVW HBI.out.r.lt, HBI.out.b.below hVW HBI.out.b.lt, by omega⟩
      have HBW : Hid (Below w.heap.size w W) := Lib.hid (HBV.out.trans (hVW.mono (by omega)))
      clear hW hVW
      have e0 := HBI0.out.b.cell 0
      have e1 := HBI0.out.b.cell 1
      have e2 := HBI0.out.b.cell 2
      simp at e0 e1 e2
      have ef := HBI0.out.b.frozen
      have el : w.heap.size + 1 < W.heap.size := HBI0.out.b.lt
      go_wp2_with (first
        | (at_builtin; (refine wpList_append_any _ (by rfl) (.tmp 41) (.tmp 43) 65 (by rfl) W.heap.size 114 iM _ 1 8 Tryz.underlying65 hiM hz0M hz1M hz2M rfl (by omega) (.slice none 0 0) 0 [] (by rfl) (World.ownsRow_nil _ _ _ _) (W.heap.size + 1) (some ⟨W.heap.size, 0, none⟩) 1 1 [.pointer none] (by rfl) (by exact reads_blk (t := 114) (blk_last _ _ _ _ rfl) (by omega) rfl) (by intro u hu; simp at hu; subst hu; rfl) (by simp only [maxLen]; omega) (by omega) (by simp) ?_); intro vwm wm hown hg hat; obtain ⟨awm, cwm, rfl, _⟩ := own_shape hown; rw [Nat.zero_add, List.nil_append] at hown; go_must (have biwm := (HBI0.out).grown hg; have Owm := Lib.hid hown; have BIwm := Lib.hid biwm; have ewm0 := biwm.b.cell 0; have ewm1 := biwm.b.cell 1; have ewm2 := biwm.b.cell 2; simp at ewm0 ewm1 ewm2; have ewmf := biwm.b.frozen; have rwm0 := biwm.r.cell 0; have rwm1 := biwm.r.cell 1; have rwm2 := biwm.r.cell 2; simp at rwm0 rwm1 rwm2; have rwmf := biwm.r.frozen; have rwml : w.heap.size < wm.heap.size := biwm.r.lt; have ewml : w.heap.size + 1 < wm.heap.size := biwm.b.lt; have HGwm := Lib.hid hg; have hswm : W.heap.size < wm.heap.size := (by have h9 := hg.size; simp only [alloc_size, size_set'] at h9; omega); clear hown hg hat biwm))
        | (at_builtin; (refine wpList_append_any _ (by rfl) (.tmp 47) (.tmp 49) 64 (by rfl) wm.heap.size 36 iU _ 1 8 Tryz.underlying64 hiU hz0U hz1U hz2U rfl (by omega) (.slice none 0 0) 0 [] (by rfl) (World.ownsRow_nil _ _ _ _) (wm.heap.size + 1) (some ⟨wm.heap.size, 0, none⟩) 1 1 [.pointer none] (by rfl) (by exact reads_blk (t := 36) (blk_last _ _ _ _ (size_set' _ _ _).symm) (by omega) rfl) (by intro u hu; simp at hu; subst hu; rfl) (by simp only [maxLen]; omega) (by omega) (by simp) ?_); intro vwu wu hown hg hat; obtain ⟨awu, cwu, rfl, _⟩ := own_shape hown; rw [Nat.zero_add, List.nil_append] at hown; go_must (have biwu := (BIwm.out.setM (.slice awm 1 cwm)).grown hg; have Owu := Lib.hid hown; have Owm2 : Hid (wu.ownsRow W.heap.size 114 1 (.slice awm 1 cwm) 1 [.pointer none]) := Lib.hid (((row_set Owm.out BIwm.out.b (by decide) 2 (.slice awm 1 cwm)).alloc _).kept hg (own_or_none _)); have BIwu := Lib.hid biwu; have ewu0 := biwu.b.cell 0; have ewu1 := biwu.b.cell 1; have ewu2 := biwu.b.cell 2; simp at ewu0 ewu1 ewu2; have ewuf := biwu.b.frozen; have rwu0 := biwu.r.cell 0; have rwu1 := biwu.r.cell 1; have rwu2 := biwu.r.cell 2; simp at rwu0 rwu1 rwu2; have rwuf := biwu.r.frozen; have rwul : w.heap.size < wu.heap.size := biwu.r.lt; have ewul : w.heap.size + 1 < wu.heap.size := biwu.b.lt; have HGwu := Lib.hid hg; have hswu : wm.heap.size < wu.heap.size := (by have h9 := hg.size; simp only [alloc_size, size_set'] at h9; omega); clear hown hg hat biwu))
        | (at_builtin; (refine wpList_append_any _ (by rfl) (.tmp 55) (.tmp 56) 63 (by rfl) wu.heap.size 72 iD _ 1 16 Tryz.underlying63 hiD hz0D hz1D hz2D rfl (by omega) (.slice none 0 0) 0 [] (by rfl) (World.ownsRow_nil _ _ _ _) (wu.heap.size + 1) (some ⟨wu.heap.size, 0, none⟩) 1 1 [Value.nilIface] (by rfl) (by exact reads_blk (t := 72) (blk_last _ _ _ _ (size_set' _ _ _).symm) (by omega) rfl) (by intro u hu; simp at hu; subst hu; rfl) (by simp only [maxLen]; omega) (by omega) (by simp) ?_); intro vwd wd hown hg hat; obtain ⟨awd, cwd, rfl, _⟩ := own_shape hown; rw [Nat.zero_add, List.nil_append] at hown; go_must (have biwd := (BIwu.out.setU (.slice awu 1 cwu)).grown hg; have Owd := Lib.hid hown; have Owm3 : Hid (wd.ownsRow W.heap.size 114 1 (.slice awm 1 cwm) 1 [.pointer none]) := Lib.hid (((row_set Owm2.out BIwu.out.b (by decide) 1 (.slice awu 1 cwu)).alloc _).kept hg (own_or_none _)); have Owu3 : Hid (wd.ownsRow wm.heap.size 36 1 (.slice awu 1 cwu) 1 [.pointer none]) := Lib.hid (((row_set Owu.out BIwu.out.b (by decide) 1 (.slice awu 1 cwu)).alloc _).kept hg (own_or_none _)); have BIwd := Lib.hid biwd; have ewd0 := biwd.b.cell 0; have ewd1 := biwd.b.cell 1; have ewd2 := biwd.b.cell 2; simp at ewd0 ewd1 ewd2; have ewdf := biwd.b.frozen; have rwd0 := biwd.r.cell 0; have rwd1 := biwd.r.cell 1; have rwd2 := biwd.r.cell 2; simp at rwd0 rwd1 rwd2; have rwdf := biwd.r.frozen; have rwdl : w.heap.size < wd.heap.size := biwd.r.lt; have ewdl : w.heap.size + 1 < wd.heap.size := biwd.b.lt; have HGwd := Lib.hid hg; have hswd : wu.heap.size < wd.heap.size := (by have h9 := hg.size; simp only [alloc_size, size_set'] at h9; omega); clear hown hg hat biwd)))
      rw [rounds_succ]
      go_wp2
      refine bodyPost_ret (v := .tuple #[.agg #[.slice awd 1 cwd, .slice awu 1 cwu, .slice awm 1 cwm], .bool true]) (by simp only [results, Tryz.results22]; go_simp) rfl ?_
      have bD := BIwd.out.setD (.slice awd 1 cwd)
      obtain ⟨gD, rfl, _, _, xD, kD⟩ := own_one (bD.fin3 (.slice awd 1 cwd) (.slice awu 1 cwu) (.slice awm 1 cwm) (row_set Owd.out BIwd.out.b (by decide) 0 (.slice awd 1 cwd)) (by decide))
      obtain ⟨gU, rfl, _, _, xU, kU⟩ := own_one (bD.fin3 (.slice (some ⟨gD, 0, none⟩) 1 cwd) (.slice awu 1 cwu) (.slice awm 1 cwm) (row_set Owu3.out BIwd.out.b (by decide) 0 (.slice (some ⟨gD, 0, none⟩) 1 cwd)) (by decide))
      obtain ⟨gM, rfl, _, _, xM, kM⟩ := own_one (bD.fin3 (.slice (some ⟨gD, 0, none⟩) 1 cwd) (.slice (some ⟨gU, 0, none⟩) 1 cwu) (.slice awm 1 cwm) (row_set Owm3.out BIwd.out.b (by decide) 0 (.slice (some ⟨gD, 0, none⟩) 1 cwd)) (by decide))
      refine ⟨gD, cwd, gU, cwu, gM, cwm, rfl, xD, xU, xM, ⟨kD, kU, kM⟩, ?_⟩
      have b1 : Below w.heap.size w wm := (HBW.out.alloc (by omega) _).grown HGwm.out (by simp; omega) (fun k hk => by simp [Value.ownBlock] at hk)
      have b2 : Below w.heap.size w wu := ((b1.setCell (by simp) _).alloc (by simp; omega) _).grown HGwu.out (by simp; omega) (fun k hk => by simp [Value.ownBlock] at hk)
      have b3 : Below w.heap.size w wd := ((b2.setCell (by simp) _).alloc (by simp; omega) _).grown HGwd.out (by simp; omega) (fun k hk => by simp [Value.ownBlock] at hk)
      exact (((b3.setCell (by simp) _).setCell (by simp) _).setCell (by simp) _).setCell (by simp) _
      )
end Go.Proofs.YtcbebefdbdppdaaGreat
namespace Go.Proofs.YtcbebefdbdppdaaGreat
open Go.RowKit Go.Maps
theorem BothIn.fr {Z Z' : World} {B0 B1 h : Nat} {d u m : Value} {Av : Nat → Prop} (hb : BothIn Z B0 B1 d u m) (ht : Touch (fr h Av) Z Z') (h0 : Av B0) (h1 : Av B1) : BothIn Z' B0 B1 d u m :=
  ⟨(fr_av ht h0 hb.r.lt).trans hb.r, (fr_av ht h1 hb.b.lt).trans hb.b, hb.ne⟩
theorem World1.aside {z z' : World} {h dg wg mg q p mq mp B : Nat} {Av : Nat → Prop} {X Y : Wnd} {S T : Drv} (hT : World1 z h Av dg wg mg q p mq mp X S Y T) (ht : Touch (· = B) z z') (hB : Av B) (hd : dg ≠ B ∧ wg ≠ B ∧ mg ≠ B) : World1 z' h Av dg wg mg q p mq mp X S Y T := by
  obtain ⟨F1, F2, a, b, r, h1, h2, hno, hr, hdd, hl⟩ := hT
  have hs := ht.size
  refine ⟨F1, F2, a.keep ht fun k hk e => ?_, b.keep ht fun k hk e => ?_, r.keep ht fun k hk e => ?_, fun k hk => by have := h1 k hk; omega, fun k hk => by have := h2 k hk; omega, hno, hr, hdd, fun k hk => by have := hl k hk; omega⟩
  · subst e; exact (hr k hB).1 hk
  · subst e; exact (hr k hB).2 hk
  · subst e; rcases hk with hk | hk | hk
    · exact hd.1 hk.symm
    · exact hd.2.1 hk.symm
    · exact hd.2.2 hk.symm
theorem fr_not {h k : Nat} {Av : Nat → Prop} (hk : Av k) : ¬fr h Av k := fun hf => hf.2 hk
theorem pre_touch {W w1 : World} {B : Nat} {o : Obj} (hg : (W.alloc o).grownBy w1 (Value.slice none 0 0).ownBlock) : Touch (· = B) W w1 := (Touch.alloc W o).then_ (Touch.of_grown hg fun k hk => by simp [Value.ownBlock] at hk)
set_option maxRecDepth 100000 in
set_option maxHeartbeats 20000000 in
theorem make_yes (w : World) (x : PPlace) (L : PlLay) (hx : PlaceIn w x L) (hno : x.ok = true) (gp op cp : Nat) (hpl : gp < w.heap.size) (hcp : 1 ≤ cp) (hcells : ∀ j u, (placeCells x L)[j]? = some u → w.cell? ⟨gp, op + j, none⟩ = some u) :
    Calls Tryz.prog 22 #[.slice (some ⟨gp, op, none⟩) 1 cp] w fun e w' => ∃ dg dc wg wc mg mc q p mq mp Av, e = .returned (.tuple #[bothV dg dc wg wc mg mc, .bool true]) ∧ World1 w' w.heap.size Av dg wg mg q p mq mp x.wnd x.drv x.wnd x.drv ∧ Caps dc wc mc ∧ Below w.heap.size w w' := by
  obtain ⟨there, room, fs, plan, off, fused, R, C, I⟩ := x
  obtain ⟨fa, fc, pa, pc⟩ := L
  unfold placeCells at hcells
  simp only at hcells
  have p0 : w.cell? ⟨gp, op, none⟩ = some (.bool there) := hcells 0 _ rfl
  have p1 : w.cell? ⟨gp, op + 1, none⟩ = some (.int .i64 room) := hcells 1 _ rfl
  have p2 : w.cell? ⟨gp, op + 2, none⟩ = some (.slice fa fs.length fc) := hcells 2 _ rfl
  have p3 : w.cell? ⟨gp, op + 3, none⟩ = some (.slice pa plan.length pc) := hcells 3 _ rfl
  have p4 : w.cell? ⟨gp, op + 4, none⟩ = some (.bool off) := hcells 4 _ rfl
  have p5 : w.cell? ⟨gp, op + 5, none⟩ = some (.bool fused) := hcells 5 _ rfl
  have p6 : w.cell? ⟨gp, op + 6, none⟩ = some (.int .i64 R) := hcells 6 _ rfl
  have p7 : w.cell? ⟨gp, op + 7, none⟩ = some (.int .i64 C) := hcells 7 _ rfl
  have p8 : w.cell? ⟨gp, op + 8, none⟩ = some (.int .i64 I) := hcells 8 _ rfl
  have HX := Lib.hid hx
  clear hx hcells
  have hth : there = true := by
    cases there with
    | true => rfl
    | false => simp [PPlace.ok] at hno
  subst hth
  obtain ⟨iM, hiM, hz0M, hz1M, hz2M⟩ := info_parts pdiskInfo
  obtain ⟨iU, hiU, hz0U, hz1U, hz2U⟩ := info_parts pwoundInfo
  obtain ⟨iD, hiD, hz0D, hz1D, hz2D⟩ := info_parts idiskInfo
  have hload : loadOk room fs = true := by simpa [PPlace.ok] using hno
  clear hno
  obtain ⟨S, hS⟩ : ∃ S, S = (Drv.new room.toNat).loadK fs := ⟨_, rfl⟩
  have HS := Lib.hid hS
  have HRP : Hid (∀ V, Below w.heap.size w V → Reads V V.heap.size 2 pa plan.length (planCells plan)) := Lib.hid fun V hV => (HX.out.plan.below hV).more hV.size
  have HPL : Hid (∀ ad, pa = some ad → 0 < plan.length → ad.block < w.heap.size) := Lib.hid HX.out.pl
  have HNP : Hid (plan.length * 16 ≤ 140737488351232) := Lib.hid HX.out.np
  have hnpc : plan.length ≤ pc := HX.out.npc
  clear hS
  obtain ⟨vals, hfin⟩ := HX.out.files
  have HFI : Hid (∀ V, Below w.heap.size w V → FilesIn V fa fs vals) := Lib.hid fun V hV => hfin.keep hV
  have HSP : Hid (∀ ad, fa = some ad → 0 < fs.length → ad.spot = none) := Lib.hid HX.out.spot
  have HNF : Hid (fs.length ≤ 1099511627776) := Lib.hid HX.out.nf
  have HTO : Hid (Drv.total fs ≤ 140737488351232) := Lib.hid HX.out.tot
  have HNLN : Hid (∀ f ∈ fs, f.1.length ≤ 1099511627776) := Lib.hid HX.out.nl
  have HLO := Lib.hid hload
  clear hfin
  go_enter Tryz.func22, Tryz.ntmps22
  go_wp2
  refine wp_loop_rounds 2 ?_
  rw [rounds_succ]
  go_upto_region 9 with fail
  refine wp_world fun V hV => ?_
  have HBV : Hid (Below w.heap.size w V) := Lib.hid (by rw [hV]; exact (((Below.refl _ w).alloc (Nat.le_refl _) _).alloc (by simp) _).alloc (by simp; omega) _)
  have HBI : Hid (BothIn V w.heap.size (w.heap.size + 1) (.slice none 0 0) (.slice none 0 0) (.slice none 0 0)) := Lib.hid (by rw [hV]; exact ⟨((blk_last w _ _ _ rfl).alloc _).alloc _, (blk_last (w.alloc _) _ _ _ (by simp)).alloc _, by omega⟩)
  have HPB : Hid (Blk V (w.heap.size + 1 + 1) 62 #[.bool true, .int .i64 room, .slice fa fs.length fc, .slice pa plan.length pc, .bool off, .bool fused, .int .i64 R, .int .i64 C, .int .i64 I]) := Lib.hid (by rw [hV]; exact blk_last _ _ _ _ (by simp))
  have q1 : V.cell? ⟨w.heap.size + 1 + 1, 1, none⟩ = some (.int .i64 room) := HPB.out.cell 1
  have q2 : V.cell? ⟨w.heap.size + 1 + 1, 2, none⟩ = some (.slice fa fs.length fc) := HPB.out.cell 2
  have hlV : w.heap.size + 1 + 1 < V.heap.size := HPB.out.lt
  have hVs : V.heap.size = w.heap.size + 3 := by rw [hV]; simp
  clear hV p0 p1 p2 p3 p4 p5 p6 p7 p8
  have q3 : V.cell? ⟨w.heap.size + 1 + 1, 3, none⟩ = some (.slice pa plan.length pc) := HPB.out.cell 3
  have HSV : Hid (V.heap.size = w.heap.size + 3) := Lib.hid hVs
  go_upto_region 10 with (first
    | (go_at_call 74; refine (mload_any room fs vals fa fc _ (HFI.out _ HBV.out) HSP.out HNF.out HTO.out HNLN.out).mono ?_; rintro e w2 ⟨hy2, _, hb2⟩; obtain ⟨pm, rfl, hm2⟩ := hy2 HLO.out; rw [← HS.out] at hm2; have HM2 := Lib.hid hm2; have HB2 := Lib.hid hb2; clear hy2 hb2 hm2)
    | (go_at_call 73; refine (mdnew_any pm _).mono ?_; rintro e w3 ⟨rfl, hg3, hb3, hs3⟩; have HG3 := Lib.hid hg3; have HB3 := Lib.hid hb3; have HS3 := Lib.hid hs3; clear hg3 hb3 hs3))
  obtain ⟨mq, hmq⟩ : ∃ mq, mq = w2.heap.size := ⟨_, rfl⟩
  rw [← hmq] at HG3 ⊢
  have HMQ := Lib.hid hmq
  have hs2 := HB2.out.size
  have hs3 := HB3.out.size
  have hbV3 : Below V.heap.size V w3 := HB2.out.trans (HB3.out.mono hs2)
  have HBV3 := Lib.hid hbV3
  have r1 : w3.cell? ⟨w.heap.size + 1 + 1, 1, none⟩ = some (.int .i64 room) := (hbV3.cell (p := ⟨w.heap.size + 1 + 1, 1, none⟩) hlV).trans q1
  have r2 : w3.cell? ⟨w.heap.size + 1 + 1, 2, none⟩ = some (.slice fa fs.length fc) := (hbV3.cell (p := ⟨w.heap.size + 1 + 1, 2, none⟩) hlV).trans q2
  have HDK : Hid (DK w3 mq pm Wnd.new S (fun k => V.heap.size ≤ k ∧ k < w3.heap.size)) := Lib.hid (by
    have hs3' := HS3.out
    have hmqe := HMQ.out
    refine ⟨(· = mq), fun k => V.heap.size ≤ k ∧ k < w2.heap.size, ⟨⟨g0, HG3.out, rfl, fun k e => (by simp [g0, Value.ownBlock] at e)⟩, HM2.out.below HB3.out, fun k e => (by subst e; omega), fun k hk => (by omega), fun k e hk => (by subst e; omega)⟩, fun k hk => ?_⟩
    rcases hk with e | hk
    · subst e; omega
    · omega)
  have HQ : Hid (∀ Z, Below w3.heap.size w3 Z → Z.cell? ⟨w.heap.size + 1 + 1, 1, none⟩ = some (.int .i64 room) ∧ Z.cell? ⟨w.heap.size + 1 + 1, 2, none⟩ = some (.slice fa fs.length fc)) := Lib.hid fun Z hZ => ⟨(hZ.cell (p := ⟨w.heap.size + 1 + 1, 1, none⟩) (by show w.heap.size + 1 + 1 < _; omega)).trans r1, (hZ.cell (p := ⟨w.heap.size + 1 + 1, 2, none⟩) (by show w.heap.size + 1 + 1 < _; omega)).trans r2⟩
  have HBW3 : Hid (Below w.heap.size w w3) := Lib.hid (HBV.out.trans (hbV3.mono (by omega)))
  clear hbV3 hmq
  go_region_held3 (fun w' => w'.cell? ⟨w.heap.size + 1 + 1, 1, none⟩ = some (.int .i64 room) ∧ w'.cell? ⟨w.heap.size + 1 + 1, 2, none⟩ = some (.slice fa fs.length fc)) (first | (with_reducible exact HQ4.out) | (with_reducible exact HQ5.out) | (with_reducible exact HQ6.out) | go_keep) ((first
    | (go_at_call 75; refine (pfiles_any fs vals fa fc _ (HFI.out _ (below_drew1 HBW3.out)) HSP.out HNF.out HTO.out).mono ?_; rintro e w4 ⟨v4, rfl, hf4, hb4'⟩; obtain ⟨A4, c4, vals4, rfl, hin4, hsp4⟩ := hf4.filesIn; have hb4 : Below w3.heap.size w3 w4 := ⟨hb4'.os, hb4'.tape, hb4'.output, hb4'.size, hb4'.block⟩; have HB4 := Lib.hid hb4; have HIN4 := Lib.hid hin4; have HSP4 := Lib.hid hsp4; have HQ4 := Lib.hid (HQ.out _ hb4); clear hf4 hb4' hin4 hsp4 hb4)
    | (go_at_call 29; refine (dload_any room fs vals4 A4 c4 _ HIN4.out (fun ad e _ => HSP4.out ad e) HNF.out HTO.out HNLN.out _ rfl).mono ?_; rintro e w5 ⟨hy5, _, hb5⟩; obtain ⟨p, rfl, hd5⟩ := hy5 HLO.out; rw [← HS.out] at hd5; have hb35 : Below w3.heap.size w3 w5 := HB4.out.trans (hb5.mono HB4.out.size); have HD5 := Lib.hid hd5; have HB5 := Lib.hid hb5; have HB35 := Lib.hid hb35; have HQ5 := Lib.hid (HQ.out _ hb35); clear hy5 hb5 hb35 hd5)
    | (go_at_call 11; refine (wnewb_any w4.heap.size p S _ HB5.out.size HD5.out).mono ?_; rintro e w6 ⟨q, rfl, hw6, hb6⟩; have hb36 : Below w3.heap.size w3 w6 := HB35.out.trans (hb6.mono HB35.out.size); have HW6 := Lib.hid hw6; have HB6 := Lib.hid hb6; have HB36 := Lib.hid hb36; have HQ6 := Lib.hid (HQ.out _ hb36); clear hw6 hb6 hb36)
    | fail))
  all_goals (
    go_upto_region 13 with fail
    refine wp_world fun W hW => ?_
    have hW6 : Below w6.heap.size w6 W := by rw [hW]; exact Below.refl _ _
    have hVW : Below V.heap.size V W := (HBV3.out.trans (HB36.out.mono HBV3.out.size)).trans (hW6.mono (by have h1 := HBV3.out.size; have h2 := HB36.out.size; omega))
    have HBI0 : Hid (BothIn W w.heap.size (w.heap.size + 1) (.slice none 0 0) (.slice none 0 0) (.slice none 0 0)) := Lib.hid ⟨HBI.out.r.below hVW HBI.out.r.lt, HBI.out.b.below hVW HBI.out.b.lt, by omega⟩
    have HBW : Hid (Below w.heap.size w W) := Lib.hid (HBV.out.trans (hVW.mono (by have h1 := HSV.out; omega)))
    have HPW : Hid (Blk W (w.heap.size + 1 + 1) 62 #[.bool true, .int .i64 room, .slice fa fs.length fc, .slice pa plan.length pc, .bool off, .bool fused, .int .i64 R, .int .i64 C, .int .i64 I]) := Lib.hid (HPB.out.below hVW (by omega))
    have HUW : Hid (WD W q p Wnd.new S (fun k => w4.heap.size ≤ k ∧ k < w6.heap.size)) := Lib.hid (WD.below HW6.out hW6)
    have HDW : Hid (DK W mq pm Wnd.new S (fun k => V.heap.size ≤ k ∧ k < w3.heap.size)) := Lib.hid (HDK.out.below (HB36.out.trans (hW6.mono HB36.out.size)))
    have hs6W : w6.heap.size ≤ W.heap.size := hW6.size
    have hs46 : w3.heap.size ≤ w4.heap.size := HB4.out.size
    have hsV3 : V.heap.size ≤ w3.heap.size := HBV3.out.size
    have hs36 : w3.heap.size ≤ w6.heap.size := HB36.out.size
    clear hW hW6 hVW
    have e0 := HBI0.out.b.cell 0
    have e1 := HBI0.out.b.cell 1
    have e2 := HBI0.out.b.cell 2
    simp at e0 e1 e2
    have ef := HBI0.out.b.frozen
    have el : w.heap.size + 1 < W.heap.size := HBI0.out.b.lt
    go_upto_region 18 with (first
      | (at_builtin; (refine wpList_append_any _ (by rfl) (.tmp 41) (.tmp 43) 65 (by rfl) W.heap.size 114 iM _ 1 8 Tryz.underlying65 hiM hz0M hz1M hz2M rfl (by omega) (.slice none 0 0) 0 [] (by rfl) (World.ownsRow_nil _ _ _ _) (W.heap.size + 1) (some ⟨W.heap.size, 0, none⟩) 1 1 [.pointer (some ⟨mq, 0, none⟩)] (by rfl) (by exact reads_blk (t := 114) (blk_last _ _ _ _ rfl) (by omega) rfl) (by intro u hu; simp at hu; subst hu; rfl) (by simp only [maxLen]; omega) (by omega) (by simp) ?_); intro vwm wm hown hg hat; obtain ⟨awm, cwm, rfl, _⟩ := own_shape hown; rw [Nat.zero_add, List.nil_append] at hown; go_must (have biwm := (HBI0.out).grown hg; have Owm := Lib.hid hown; have BIwm := Lib.hid biwm; have ewm0 := biwm.b.cell 0; have ewm1 := biwm.b.cell 1; have ewm2 := biwm.b.cell 2; simp at ewm0 ewm1 ewm2; have ewmf := biwm.b.frozen; have rwm0 := biwm.r.cell 0; have rwm1 := biwm.r.cell 1; have rwm2 := biwm.r.cell 2; simp at rwm0 rwm1 rwm2; have rwmf := biwm.r.frozen; have rwml : w.heap.size < wm.heap.size := biwm.r.lt; have ewml : w.heap.size + 1 < wm.heap.size := biwm.b.lt; have HGwm := Lib.hid hg; have hswm : W.heap.size < wm.heap.size := (by have h9 := hg.size; simp only [alloc_size, size_set'] at h9; omega); clear hown hg hat biwm))
      | (at_builtin; (refine wpList_append_any _ (by rfl) (.tmp 47) (.tmp 49) 64 (by rfl) wm.heap.size 36 iU _ 1 8 Tryz.underlying64 hiU hz0U hz1U hz2U rfl (by omega) (.slice none 0 0) 0 [] (by rfl) (World.ownsRow_nil _ _ _ _) (wm.heap.size + 1) (some ⟨wm.heap.size, 0, none⟩) 1 1 [.pointer (some ⟨q, 0, none⟩)] (by rfl) (by exact reads_blk (t := 36) (blk_last _ _ _ _ (size_set' _ _ _).symm) (by omega) rfl) (by intro u hu; simp at hu; subst hu; rfl) (by simp only [maxLen]; omega) (by omega) (by simp) ?_); intro vwu wu hown hg hat; obtain ⟨awu, cwu, rfl, _⟩ := own_shape hown; rw [Nat.zero_add, List.nil_append] at hown; go_must (have biwu := (BIwm.out.setM (.slice awm 1 cwm)).grown hg; have Owu := Lib.hid hown; have Owm2 : Hid (wu.ownsRow W.heap.size 114 1 (.slice awm 1 cwm) 1 [.pointer (some ⟨mq, 0, none⟩)]) := Lib.hid (((row_set Owm.out BIwm.out.b (by decide) 2 (.slice awm 1 cwm)).alloc _).kept hg (own_or_none _)); have BIwu := Lib.hid biwu; have ewu0 := biwu.b.cell 0; have ewu1 := biwu.b.cell 1; have ewu2 := biwu.b.cell 2; simp at ewu0 ewu1 ewu2; have ewuf := biwu.b.frozen; have rwu0 := biwu.r.cell 0; have rwu1 := biwu.r.cell 1; have rwu2 := biwu.r.cell 2; simp at rwu0 rwu1 rwu2; have rwuf := biwu.r.frozen; have rwul : w.heap.size < wu.heap.size := biwu.r.lt; have ewul : w.heap.size + 1 < wu.heap.size := biwu.b.lt; have HGwu := Lib.hid hg; have hswu : wm.heap.size < wu.heap.size := (by have h9 := hg.size; simp only [alloc_size, size_set'] at h9; omega); clear hown hg hat biwu))
      | (at_builtin; (refine wpList_append_any _ (by rfl) (.tmp 60) (.tmp 63) 63 (by rfl) wu.heap.size 72 iD _ 1 16 Tryz.underlying63 hiD hz0D hz1D hz2D rfl (by omega) (.slice none 0 0) 0 [] (by rfl) (World.ownsRow_nil _ _ _ _) (wu.heap.size + 1) (some ⟨wu.heap.size, 0, none⟩) 1 1 [.iface 36 (.pointer (some ⟨q, 0, none⟩))] (by rfl) (by exact reads_blk (t := 72) (blk_last _ _ _ _ (size_set' _ _ _).symm) (by omega) rfl) (by intro u hu; simp at hu; subst hu; rfl) (by simp only [maxLen]; omega) (by omega) (by simp) ?_); intro vwd wd hown hg hat; obtain ⟨awd, cwd, rfl, _⟩ := own_shape hown; rw [Nat.zero_add, List.nil_append] at hown; go_must (have biwd := (BIwu.out.setU (.slice awu 1 cwu)).grown hg; have Owd := Lib.hid hown; have Owm3 : Hid (wd.ownsRow W.heap.size 114 1 (.slice awm 1 cwm) 1 [.pointer (some ⟨mq, 0, none⟩)]) := Lib.hid (((row_set Owm2.out BIwu.out.b (by decide) 1 (.slice awu 1 cwu)).alloc _).kept hg (own_or_none _)); have Owu3 : Hid (wd.ownsRow wm.heap.size 36 1 (.slice awu 1 cwu) 1 [.pointer (some ⟨q, 0, none⟩)]) := Lib.hid (((row_set Owu.out BIwu.out.b (by decide) 1 (.slice awu 1 cwu)).alloc _).kept hg (own_or_none _)); have BIwd := Lib.hid biwd; have ewd0 := biwd.b.cell 0; have ewd1 := biwd.b.cell 1; have ewd2 := biwd.b.cell 2; simp at ewd0 ewd1 ewd2; have ewdf := biwd.b.frozen; have rwd0 := biwd.r.cell 0; have rwd1 := biwd.r.cell 1; have rwd2 := biwd.r.cell 2; simp at rwd0 rwd1 rwd2; have rwdf := biwd.r.frozen; have rwdl : w.heap.size < wd.heap.size := biwd.r.lt; have ewdl : w.heap.size + 1 < wd.heap.size := biwd.b.lt; have HGwd := Lib.hid hg; have hswd : wu.heap.size < wd.heap.size := (by have h9 := hg.size; simp only [alloc_size, size_set'] at h9; omega); clear hown hg hat biwd)))
    refine wp_world fun Z hZ => ?_
    have BD := BIwd.out.setD (.slice awd 1 cwd)
    have RD := row_set Owd.out BIwd.out.b (by decide) 0 (.slice awd 1 cwd)
    have RU := row_set Owu3.out BIwd.out.b (by decide) 0 (.slice awd 1 cwd)
    have RM := row_set Owm3.out BIwd.out.b (by decide) 0 (.slice awd 1 cwd)
    rw [← hZ] at BD RD RU RM
    have TZ : Touch (· = w.heap.size + 1) W Z := by
      have t1 : Touch (· = w.heap.size + 1) W wm := pre_touch HGwm.out
      have t2 : Touch (· = w.heap.size + 1) _ wu := pre_touch HGwu.out
      have t3 : Touch (· = w.heap.size + 1) _ wd := pre_touch HGwd.out
      rw [hZ]
      exact ((((t1.then_ (Touch.setCell _ _ _ rfl)).then_ t2).then_ (Touch.setCell _ _ _ rfl)).then_ t3).then_ (Touch.setCell _ _ _ rfl)
    obtain ⟨gD, rfl, bD, lD, xD, kD⟩ := own_one RD
    obtain ⟨gU, rfl, bU, lU, xU, kU⟩ := own_one RU
    obtain ⟨gM, rfl, bM, lM, xM, kM⟩ := own_one RM
    have hsm : W.heap.size < wm.heap.size := hswm
    have hsu : wm.heap.size < wu.heap.size := hswu
    have hVs := HSV.out
    have hWZ := TZ.size
    have HAV : Hid (∀ k, (w.heap.size ≤ k ∧ k < V.heap.size) ∨ (W.heap.size ≤ k ∧ k < Z.heap.size) → k < Z.heap.size) := Lib.hid fun k hk => by omega
    have HT0 : Hid (World1 Z w.heap.size (fun k => (w.heap.size ≤ k ∧ k < V.heap.size) ∨ (W.heap.size ≤ k ∧ k < Z.heap.size)) gD gU gM q p mq pm Wnd.new S Wnd.new S) := Lib.hid
      ⟨_, _, HUW.out.keep TZ (fun k hk e => by omega), HDW.out.keep TZ (fun k hk e => by omega), ⟨xD, xU, xM, lD, lU, lM⟩, fun k hk => by omega, fun k hk => by omega, fun k hk h2 => by omega, fun k hk => ⟨fun h2 => by omega, fun h2 => by omega⟩, fun k hk => by omega, fun k hk => by omega⟩
    have HBB : Hid (BothIn Z w.heap.size (w.heap.size + 1) (.slice (some ⟨gD, 0, none⟩) 1 cwd) (.slice (some ⟨gU, 0, none⟩) 1 cwu) (.slice (some ⟨gM, 0, none⟩) 1 cwm)) := Lib.hid BD
    have HPZ : Hid (Blk Z (w.heap.size + 1 + 1) 62 #[.bool true, .int .i64 room, .slice fa fs.length fc, .slice pa plan.length pc, .bool off, .bool fused, .int .i64 R, .int .i64 C, .int .i64 I]) := Lib.hid (HPW.out.touch TZ (by omega))
    have HCP : Hid (Caps cwd cwu cwm) := Lib.hid ⟨kD, kU, kM⟩
    have HTT : Hid (Touch (fr w.heap.size (fun k => (w.heap.size ≤ k ∧ k < V.heap.size) ∨ (W.heap.size ≤ k ∧ k < Z.heap.size))) Z Z) := Lib.hid (Touch.refl _ _)
    have HSZ : Hid (w.heap.size ≤ Z.heap.size) := Lib.hid (by omega)
    have HBZ : Hid (Below w.heap.size w Z) := Lib.hid (HBW.out.trans ((TZ.below (B := w.heap.size) (by omega) (fun k e => by omega))))
    have HRPZ : Hid (∀ U, Touch (fr w.heap.size (fun k => (w.heap.size ≤ k ∧ k < V.heap.size) ∨ (W.heap.size ≤ k ∧ k < Z.heap.size))) Z U → Reads U U.heap.size 2 pa plan.length (planCells plan)) := Lib.hid fun U hU => HRP.out U (HBZ.out.trans (fr_below hU HSZ.out))
    have HT := HT0
    have u0 := HBB.out.b.cell 0
    have u1 := HBB.out.b.cell 1
    have u2 := HBB.out.b.cell 2
    have s0 := HBB.out.r.cell 0
    have s1 := HBB.out.r.cell 1
    have s2 := HBB.out.r.cell 2
    simp at u0 u1 u2 s0 s1 s2
    have sf := HBB.out.r.frozen
    have sl := HBB.out.r.lt
    have uf := HBB.out.b.frozen
    have u3 := HPZ.out.cell 3
    have u4 := HPZ.out.cell 4
    have u5 := HPZ.out.cell 5
    have u6 := HPZ.out.cell 6
    have u7 := HPZ.out.cell 7
    have u8 := HPZ.out.cell 8
    simp at u3 u4 u5 u6 u7 u8
    clear hZ BD RD RU RM TZ xD xU xM HT0 HUW HDW HPW HGwm HGwu HGwd Owm Owu Owd Owm2 Owm3 Owu3
    have hpb : plan = [] ∨ plan ≠ [] ∧ 0 < plan.length := by
      cases plan with
      | nil => exact .inl rfl
      | cons a l => exact .inr ⟨List.cons_ne_nil _ _, by simp only [List.length_cons]; omega⟩
    have HSZ0 := HSZ
    have HGDN : Hid (gD ≠ w.heap.size ∧ gU ≠ w.heap.size ∧ gM ≠ w.heap.size) := Lib.hid (by omega)
    rcases hpb with rfl | ⟨hp0, hpd⟩ <;> cases off <;> cases fused <;> (
      go_wp2_with (first
        | (go_at_call 53; have j4 := do_arm _ w.heap.size gD cwd gU cwu gM cwm q p mq pm _ _ _ S S HT.out HSZ.out HCP.out ⟨1, 0, 0, 0, [], plan, 0, 0, 0⟩ ⟨none, 0, pa, pc, none, 0, 0⟩ rfl (HRPZ.out _ HTT.out) (fun ad e _ => .inl (HPL.out ad e hpd)) HNP.out; unfold bothV actCells at j4; simp only [List.length_nil] at j4; with_reducible refine j4.mono ?_; clear j4; rintro e w7 ⟨rfl, h8, t8⟩; have HT := Lib.hid h8; have HTT := Lib.hid (HTT.out.then_ t8); have hbb8 := HBB.out.fr t8 (.inl (by omega)) (.inl (by omega)); have HBB := Lib.hid hbb8; have hpz8 := HPZ.out.touch t8 (fr_not (.inl (by omega))); have HPZ := Lib.hid hpz8; have HSZ := Lib.hid (Nat.le_trans HSZ.out t8.size); have u0 := hbb8.b.cell 0; have u1 := hbb8.b.cell 1; have u2 := hbb8.b.cell 2; have s0 := hbb8.r.cell 0; have s1 := hbb8.r.cell 1; have s2 := hbb8.r.cell 2; simp at u0 u1 u2 s0 s1 s2; have sf := hbb8.r.frozen; have sl := hbb8.r.lt; have uf := hbb8.b.frozen; have u3 := hpz8.cell 3; have u4 := hpz8.cell 4; have u5 := hpz8.cell 5; have u6 := hpz8.cell 6; have u7 := hpz8.cell 7; have u8 := hpz8.cell 8; simp at u3 u4 u5 u6 u7 u8; clear h8 t8 hbb8 hpz8)
        | (go_at_call 53; have j4 := do_offline _ w.heap.size gD cwd gU cwu gM cwm q p mq pm _ _ _ S S HT.out HSZ.out HCP.out ⟨2, 0, 0, 0, [], [], 0, 0, 0⟩ ⟨none, 0, none, 0, none, 0, 0⟩ rfl; unfold bothV actCells at j4; simp only [List.length_nil] at j4; with_reducible refine j4.mono ?_; clear j4; rintro e w8 ⟨rfl, h8, t8⟩; have HT := Lib.hid h8; have HTT := Lib.hid (HTT.out.then_ t8); have hbb8 := HBB.out.fr t8 (.inl (by omega)) (.inl (by omega)); have HBB := Lib.hid hbb8; have hpz8 := HPZ.out.touch t8 (fr_not (.inl (by omega))); have HPZ := Lib.hid hpz8; have HSZ := Lib.hid (Nat.le_trans HSZ.out t8.size); have u0 := hbb8.b.cell 0; have u1 := hbb8.b.cell 1; have u2 := hbb8.b.cell 2; have s0 := hbb8.r.cell 0; have s1 := hbb8.r.cell 1; have s2 := hbb8.r.cell 2; simp at u0 u1 u2 s0 s1 s2; have sf := hbb8.r.frozen; have sl := hbb8.r.lt; have uf := hbb8.b.frozen; have u3 := hpz8.cell 3; have u4 := hpz8.cell 4; have u5 := hpz8.cell 5; have u6 := hpz8.cell 6; have u7 := hpz8.cell 7; have u8 := hpz8.cell 8; simp at u3 u4 u5 u6 u7 u8; clear h8 t8 hbb8 hpz8)
        | (go_at_call 53; have j4 := do_fuse _ w.heap.size gD cwd gU cwu gM cwm q p mq pm _ _ _ S S HT.out HSZ.out HCP.out ⟨4, 0, 0, 0, [], [], R, C, I⟩ ⟨none, 0, none, 0, none, 0, 0⟩ rfl; unfold bothV actCells at j4; simp only [List.length_nil] at j4; with_reducible refine j4.mono ?_; clear j4; rintro e w9 ⟨rfl, h8, t8⟩; have HT := Lib.hid h8; have HTT := Lib.hid (HTT.out.then_ t8); have hbb8 := HBB.out.fr t8 (.inl (by omega)) (.inl (by omega)); have HBB := Lib.hid hbb8; have hpz8 := HPZ.out.touch t8 (fr_not (.inl (by omega))); have HPZ := Lib.hid hpz8; have HSZ := Lib.hid (Nat.le_trans HSZ.out t8.size); have u0 := hbb8.b.cell 0; have u1 := hbb8.b.cell 1; have u2 := hbb8.b.cell 2; have s0 := hbb8.r.cell 0; have s1 := hbb8.r.cell 1; have s2 := hbb8.r.cell 2; simp at u0 u1 u2 s0 s1 s2; have sf := hbb8.r.frozen; have sl := hbb8.r.lt; have uf := hbb8.b.frozen; have u3 := hpz8.cell 3; have u4 := hpz8.cell 4; have u5 := hpz8.cell 5; have u6 := hpz8.cell 6; have u7 := hpz8.cell 7; have u8 := hpz8.cell 8; simp at u3 u4 u5 u6 u7 u8; clear h8 t8 hbb8 hpz8)
        | fail)
      rw [rounds_succ]
      go_wp2
      refine bodyPost_ret (v := .tuple #[.agg #[.slice (some ⟨gD, 0, none⟩) 1 cwd, .slice (some ⟨gU, 0, none⟩) 1 cwu, .slice (some ⟨gM, 0, none⟩) 1 cwm], .bool true]) (by simp only [results, Tryz.results22]; go_simp) rfl ?_
      have hS9 := HS.out
      have hE := HT.out.aside (fin3_touch _ _ (.slice (some ⟨gD, 0, none⟩) 1 cwd) (.slice (some ⟨gU, 0, none⟩) 1 cwu) (.slice (some ⟨gM, 0, none⟩) 1 cwm)) (.inl (by omega)) HGDN.out
      rw [hS9] at hE
      exact ⟨gD, cwd, gU, cwu, gM, cwm, q, p, mq, pm, _, rfl, hE, HCP.out, HBZ.out.trans (((fr_below HTT.out HSZ0.out).setCell (by simp) _).setCell (by simp) _ |>.setCell (by simp) _)⟩))
end Go.Proofs.YtcbebefdbdppdaaGreat
namespace Go.Proofs.YtcbebefdbdppdaaGreat
open Go.RowKit Go.Maps
def fileOf : List File → List UInt8 → Option (List UInt8)
  | [], _ => none
  | f :: r, s => if f.1 = s then some f.2 else fileOf r s
def AllSafe (S : Drv) : Prop := ∀ i, i < S.bodies.length → (S.body i).safe = (S.body i).data.length
theorem AllSafe.load {S : Drv} (h : AllSafe S) (f : File) : AllSafe (S.loadStep f) := fun i hi => by
  have hl : (S.loadStep f).bodies.length = S.bodies.length + 1 := by show (S.bodies ++ [_]).length = _; rw [List.length_append]; rfl
  rcases Nat.lt_or_ge i S.bodies.length with h1 | h1
  · rw [load_body_lt S f h1]; exact h i h1
  · obtain rfl : i = S.bodies.length := by omega
    rw [load_body_eq]
theorem loadK_facts : ∀ (fs : List File) (S : Drv) (N : Nat), S.Inv N → S.pending = [] → S.kept = S.now → AllSafe S → S.loads fs = true → (∀ f ∈ fs, f.2.length ≤ 1073741824) → N + fs.length ≤ 1073741824 →
    (S.loadK fs).Inv (N + fs.length) ∧ (S.loadK fs).pending = [] ∧ (S.loadK fs).kept = (S.loadK fs).now ∧ AllSafe (S.loadK fs) ∧ (S.loadK fs).room = S.room
  | [], S, N, hI, hp, hk, ha, _, _, _ => ⟨hI, hp, hk, ha, rfl⟩
  | f :: r, S, N, hI, hp, hk, ha, hl, hb, hn => by
    simp only [Drv.loads, Bool.and_eq_true] at hl
    simp only [List.length_cons] at hn
    have h1 := Inv.load hI hp hk f hl.1 (hb f List.mem_cons_self) (by omega)
    have h2 := loadK_facts r (S.loadStep f) (N + 1) h1 hp (by show S.kept.put _ _ = S.now.put _ _; rw [hk]) (ha.load f) hl.2 (fun g hg => hb g (List.mem_cons_of_mem _ hg)) (by omega)
    rw [show N + (f :: r).length = N + 1 + r.length by simp only [List.length_cons]; omega]
    exact h2
def turnW (X : Wnd) (S : Drv) (nm : Nm) (bs : List UInt8) : Wnd × Drv × Int := if lookE nm = 0 then awrite X S nm bs else (X, S, 91)
end Go.Proofs.YtcbebefdbdppdaaGreat

/- What a wound and its drive keep over a call: bounds. No program in sight.; A file written whole: layer 13 over a wound, whatever comes of each call.; The document's disk in memory: a drive and its gate in one struct; a wound and a disk side by side. -/
import Derived.Test.YtdmcjomcbhdcbaaGreatM11
import Derived.Test.YtdmcjomcbhdcbaaGreatM7
import Derived.Test.YtdmcjomcbhdcbaaGreatM17
import Derived.Test.YtdmcjomcbhdcbaaGreatM13
import Derived.Test.YtdmcjomcbhdcbaaGreatM16
namespace Go.Proofs.YtdmcjomcbhdcbaaGreat
open Go.RowKit Go.Maps

/-- What a wound keeps over k steps. -/
structure Wnd.Okn (X : Wnd) (k : Nat) : Prop where
  calls : 0 ≤ X.calls ∧ X.calls ≤ k
  round : 0 ≤ X.round ∧ X.round ≤ k
  plan : X.plan.length ≤ 8796093021952
  fuse : ∀ f, X.fuse = some f → 0 ≤ f.round ∧ f.round ≤ 9223372036854775807
theorem Wnd.Okn.ok {X : Wnd} {k : Nat} (h : X.Okn k) (hk : k ≤ 1152921504606846976) : X.Ok :=
  ⟨⟨h.calls.1, by have := h.calls.2; omega⟩, ⟨h.round.1, by have := h.round.2; omega⟩, h.plan, h.fuse⟩
theorem Wnd.Okn.mono {X : Wnd} {k m : Nat} (h : X.Okn k) (hkm : k ≤ m) : X.Okn m :=
  ⟨⟨h.calls.1, by have := h.calls.2; omega⟩, ⟨h.round.1, by have := h.round.2; omega⟩, h.plan, h.fuse⟩
theorem Wnd.Okn.new : Wnd.new.Okn 0 := ⟨by decide, by decide, by decide, fun f hf => by cases hf⟩
theorem Wnd.Okn.cnt {X : Wnd} {k : Nat} (h : X.Okn k) (d : Bool) : ({ X.count with down := d } : Wnd).Okn (k + 1) :=
  ⟨⟨by have := h.calls.1; show (0 : Int) ≤ X.calls + 1; omega, by have := h.calls.2; show X.calls + 1 ≤ _; omega⟩, ⟨by have := h.round.1; show (0 : Int) ≤ X.round + 1; omega, by have := h.round.2; show X.round + 1 ≤ _; omega⟩, h.plan, h.fuse⟩
theorem struck_okn {X : Wnd} {k : Nat} (h : X.Okn k) (may : Bool) : (X.struck may).1.Okn (k + 1) := by
  unfold Wnd.struck
  split
  · exact h.mono (by omega)
  · split
    · exact h.mono (by omega)
    · split
      · exact h.cnt true
      · exact h.cnt X.count.down
theorem Wnd.Okn.away {X : Wnd} {k : Nat} (h : X.Okn k) (b : Bool) : ({ X with away := b } : Wnd).Okn k := ⟨h.calls, h.round, h.plan, h.fuse⟩
theorem Wnd.Okn.down {X : Wnd} {k : Nat} (h : X.Okn k) (b : Bool) : ({ X with down := b } : Wnd).Okn k := ⟨h.calls, h.round, h.plan, h.fuse⟩
theorem Wnd.Okn.arm {X : Wnd} {k : Nat} (h : X.Okn k) (l : List (Int × Int)) (hl : l.length ≤ 8796093021952) : (X.arm l).Okn k := ⟨⟨Int.le_refl _, by show (0 : Int) ≤ _; omega⟩, h.round, hl, h.fuse⟩
theorem Wnd.Okn.fused {X : Wnd} {k : Nat} (h : X.Okn k) (r c i : Int) (hr : r ≤ 9223372036854775807) : (X.setFuse r c i).Okn k := by
  refine ⟨h.calls, h.round, h.plan, fun f hf => ?_⟩
  simp only [Wnd.setFuse] at hf
  split at hf
  · injection hf with hf; subst hf; rename_i h0; exact ⟨h0, hr⟩
  · cases hf
theorem Wnd.Okn.rest {X : Wnd} {k : Nat} (h : X.Okn k) (off : Bool) : (X.rest off).Okn k := by
  refine ⟨h.calls, ⟨Int.le_refl _, by show (0 : Int) ≤ _; omega⟩, h.plan, fun f hf => ?_⟩
  unfold Wnd.rest at hf
  cases hx : X.fuse with
  | none => simp [hx] at hf
  | some g =>
    have := h.fuse g hx
    simp only [hx] at hf
    split at hf
    · cases hf
    · injection hf with hf; subst hf
      rename_i h0
      show 0 ≤ g.round - 1 ∧ g.round - 1 ≤ _
      omega

theorem Drv.chAll_room (S : Drv) (c : List Stp) : (S.chAll c).room = S.room := by
  induction c generalizing S with
  | nil => rfl
  | cons s r ih => exact (ih (S.chStp s)).trans rfl
theorem Drv.create_keepsRoom (S : Drv) (s : Nm) : (S.create s).1.room = S.room := by
  unfold Drv.create
  split
  · rfl
  · split
    · rfl
    · exact Drv.chAll_room _ _
theorem Drv.append_keepsRoom (S : Drv) (s : Nm) (d : List UInt8) : (S.append s d).1.room = S.room := by
  unfold Drv.append
  split
  · rfl
  · split
    · rfl
    · split
      · rfl
      · rfl
theorem Drv.sync_keepsRoom (S : Drv) (s : Nm) : (S.sync s).1.room = S.room := by
  unfold Drv.sync
  split
  · rfl
  · rfl
theorem Drv.rename_keepsRoom (S : Drv) (s t : Nm) : (S.rename s t).1.room = S.room := by
  unfold Drv.rename
  split
  · rfl
  · split
    · rfl
    · split
      · rfl
      · exact Drv.chAll_room _ _
theorem Drv.remove_keepsRoom (S : Drv) (s : Nm) : (S.remove s).1.room = S.room := by
  unfold Drv.remove
  split
  · rfl
  · exact Drv.chAll_room _ _

/-- A wound and its drive behind at most so many calls. -/
structure Kept (X : Wnd) (S : Drv) (k N r : Nat) : Prop where
  wnd : X.Okn k
  drv : S.Inv N
  room : S.room = r
theorem Kept.mono {X : Wnd} {S : Drv} {k N r k' N' : Nat} (h : Kept X S k N r) (hk : k ≤ k') (hN : N ≤ N') (hr : N' ≤ 1073741824) : Kept X S k' N' r :=
  ⟨h.wnd.mono hk, h.drv.mono hN (hr), h.room⟩
theorem wcall_kept {X : Wnd} {S : Drv} {k N r : Nat} (h : Kept X S k N r) (may : Bool) (f : Drv × Int) (hf : f.1.Inv (N + 1)) (hfr : f.1.room = S.room) (hr : (N + 1) ≤ 1073741824) :
    Kept (wcall X S may f).1 (wcall X S may f).2.1 (k + 1) (N + 1) r := by
  unfold wcall
  split
  · exact ⟨struck_okn h.wnd may, hf, hfr.trans h.room⟩
  · exact ⟨struck_okn h.wnd may, h.drv.mono (by omega) (hr), h.room⟩
theorem wappend_kept {X : Wnd} {S : Drv} {k N r : Nat} (h : Kept X S k N r) (s : Nm) (bs : List UInt8) (hr : (N + 1) ≤ 1073741824) :
    Kept (wappend X S s bs).1 (wappend X S s bs).2.1 (k + 1) (N + 1) r := by
  unfold wappend
  have hr' : (N + 1) ≤ 1073741824 := hr
  split
  · exact ⟨struck_okn h.wnd true, Drv.append_inv h.drv s bs hr', (Drv.append_keepsRoom S s bs).trans h.room⟩
  · split
    · exact ⟨struck_okn h.wnd true, Drv.append_inv h.drv s _ hr', (Drv.append_keepsRoom S s _).trans h.room⟩
    · exact ⟨struck_okn h.wnd true, h.drv.mono (by omega) hr', h.room⟩
theorem wread_kept {X : Wnd} {S : Drv} {k N r : Nat} {α : Type} (h : Kept X S k N r) (z : List α × Int) (hr : (N + 1) ≤ 1073741824) :
    Kept (wread X z).1 S (k + 1) (N + 1) r := by
  have hr' : (N + 1) ≤ 1073741824 := hr
  unfold wread
  split <;> exact ⟨struck_okn h.wnd false, h.drv.mono (by omega) hr', h.room⟩

/-- The steps of a writing of a file whole, through a wound. -/
def awStep (nm : Nm) (bs : List UInt8) (Z : Wnd × Drv) : Nat → Wnd × Drv × Int
  | 0 => wcall Z.1 Z.2 true (Z.2.create [116])
  | 1 => wappend Z.1 Z.2 [116] bs
  | 2 => wcall Z.1 Z.2 false (Z.2.sync [116])
  | 3 => wcall Z.1 Z.2 false (Z.2.rename [116] nm)
  | _ => wcall Z.1 Z.2 false (Z.2.syncDir, 0)
def awFrom (nm : Nm) (bs : List UInt8) : Nat → Nat → Wnd × Drv → Wnd × Drv × Int
  | 0, _, Z => (Z.1, Z.2, 0)
  | n + 1, k, Z => if (awStep nm bs Z k).2.2 = 0 then awFrom nm bs n (k + 1) ((awStep nm bs Z k).1, (awStep nm bs Z k).2.1) else awStep nm bs Z k
/-- A file written whole, through a wound. -/
def awrite (X : Wnd) (S : Drv) (nm : Nm) (bs : List UInt8) : Wnd × Drv × Int := awFrom nm bs 5 0 (X, S)
theorem awStep_kept {Z : Wnd × Drv} {k N r : Nat} (h : Kept Z.1 Z.2 k N r) (nm : Nm) (bs : List UInt8) (i : Nat) (hr : (N + 1) ≤ 1073741824) :
    Kept (awStep nm bs Z i).1 (awStep nm bs Z i).2.1 (k + 1) (N + 1) r := by
  have hr' : (N + 1) ≤ 1073741824 := hr
  unfold awStep
  split
  · exact wcall_kept h _ _ (Drv.create_inv h.drv _ hr') (Drv.create_keepsRoom _ _) hr
  · exact wappend_kept h _ _ hr
  · exact wcall_kept h _ _ (Drv.sync_inv h.drv _ hr') (Drv.sync_keepsRoom _ _) hr
  · exact wcall_kept h _ _ (Drv.rename_inv h.drv _ _ hr') (Drv.rename_keepsRoom _ _ _) hr
  · exact wcall_kept h _ _ (Drv.syncDir_inv h.drv hr') rfl hr
theorem awFrom_kept (nm : Nm) (bs : List UInt8) : ∀ (n i : Nat) (Z : Wnd × Drv) (k N r : Nat), Kept Z.1 Z.2 k N r → (N + n) ≤ 1073741824 →
    Kept (awFrom nm bs n i Z).1 (awFrom nm bs n i Z).2.1 (k + n) (N + n) r
  | 0, _, _, _, _, _, h, _ => h
  | n + 1, i, Z, k, N, r, h, hr => by
    have h1 : (N + 1) ≤ 1073741824 := by omega
    have hs := awStep_kept h nm bs i h1
    unfold awFrom
    split
    · have := awFrom_kept nm bs n (i + 1) ((awStep nm bs Z i).1, (awStep nm bs Z i).2.1) (k + 1) (N + 1) r hs (by omega)
      rw [show k + (n + 1) = k + 1 + n by omega, show N + (n + 1) = N + 1 + n by omega]
      exact this
    · exact hs.mono (by omega) (by omega) hr
theorem awrite_kept {X : Wnd} {S : Drv} {k N r : Nat} (h : Kept X S k N r) (nm : Nm) (bs : List UInt8) (hr : (N + 5) ≤ 1073741824) :
    Kept (awrite X S nm bs).1 (awrite X S nm bs).2.1 (k + 5) (N + 5) r := awFrom_kept nm bs 5 0 (X, S) k N r h (by omega)
end Go.Proofs.YtdmcjomcbhdcbaaGreat
namespace Go.Proofs.YtdmcjomcbhdcbaaGreat
open Go.RowKit Go.Maps

def bT : ByteArray := ⟨#[116]⟩

set_option maxRecDepth 100000 in
set_option maxHeartbeats 2000000 in
theorem aw1_any (b q p : Nat) (X : Wnd) (S : Drv) (F : Nat → Prop) (w : World) (hd : WD w q p X S F) (hX : X.Ok) (hS : S.Small) (hb : w.cell? ⟨b, 0, none⟩ = some (.iface 40 (.pointer (some ⟨q, 0, none⟩)))) (Y : Wnd) (T : Drv) (x : Int) (hy : wcall X S true (S.create bT.data.toList) = (Y, T, x)) :
    Calls Tryz.prog 39 #[.pointer (some ⟨b, 0, none⟩)] w fun e w' => e = .returned (.int .i64 x) ∧ WD w' q p Y T (grow F w w') ∧ Touch F w w' := by
  have hc := wcreate_any q p X S F bT w (by decide) hd hX hS
  have hy' := hy
  rw [show wcall X S true (S.create bT.data.toList) = (Y, T, x) from hy'] at hc
  have HC := Lib.hid hc
  clear hd hX hS hc hy hy'
  have hm : ∀ W : World, (method 332 40 (.pointer (some ⟨q, 0, none⟩)) "Create").run Tryz.prog W = .ok (163, .pointer (some ⟨q, 0, none⟩)) W := fun _ => by kernel_rfl
  go_enter Tryz.func39, Tryz.ntmps39
  go_wp2_with (go_at_call 163; refine HC.out.mono ?_; rintro e w1 ⟨rfl, h1, h2⟩; have H1 := Lib.hid h1; have H2 := Lib.hid h2; clear h1 h2)
  go_ret
  exact ⟨rfl, H1.out, H2.out⟩

set_option maxRecDepth 100000 in
set_option maxHeartbeats 2000000 in
theorem aw2_any (b b2 q p : Nat) (X : Wnd) (S : Drv) (F : Nat → Prop) (w : World) (hd : WD w q p X S F) (hX : X.Ok) (hS : S.Small) (hb : w.cell? ⟨b, 0, none⟩ = some (.iface 40 (.pointer (some ⟨q, 0, none⟩)))) (A : Option Addr) (c : Nat) (bs : List UInt8) (hb2 : w.cell? ⟨b2, 0, none⟩ = some (.slice A bs.length c)) (hr : Reads w w.heap.size 1 A bs.length (bs.map B8)) (hA : ∀ ad, A = some ad → ¬F ad.block) (hcc : bs.length ≤ c) (hbs : bs.length ≤ 140737488351232) (Y : Wnd) (T : Drv) (x : Int) (hy : wappend X S bT.data.toList bs = (Y, T, x)) :
    Calls Tryz.prog 40 #[.pointer (some ⟨b, 0, none⟩), .pointer (some ⟨b2, 0, none⟩)] w fun e w' => e = .returned (.int .i64 x) ∧ WD w' q p Y T (grow F w w') ∧ Touch F w w' := by
  have hc := wappend_any q p X S F bT w (by decide) A c bs hr hA hcc hbs hd hX hS
  have hy' := hy
  rw [show wappend X S bT.data.toList bs = (Y, T, x) from hy'] at hc
  have HC := Lib.hid hc
  clear hd hX hS hc hy hy' hr hA
  have hm : ∀ W : World, (method 332 40 (.pointer (some ⟨q, 0, none⟩)) "Append").run Tryz.prog W = .ok (162, .pointer (some ⟨q, 0, none⟩)) W := fun _ => by kernel_rfl
  go_enter Tryz.func40, Tryz.ntmps40
  go_wp2_with (go_at_call 162; refine HC.out.mono ?_; rintro e w1 ⟨rfl, h1, h2⟩; have H1 := Lib.hid h1; have H2 := Lib.hid h2; clear h1 h2)
  go_ret
  exact ⟨rfl, H1.out, H2.out⟩

set_option maxRecDepth 100000 in
set_option maxHeartbeats 2000000 in
theorem aw3_any (b q p : Nat) (X : Wnd) (S : Drv) (F : Nat → Prop) (w : World) (hd : WD w q p X S F) (hX : X.Ok) (hS : S.Small) (hb : w.cell? ⟨b, 0, none⟩ = some (.iface 40 (.pointer (some ⟨q, 0, none⟩)))) (Y : Wnd) (T : Drv) (x : Int) (hy : wcall X S false (S.sync bT.data.toList) = (Y, T, x)) :
    Calls Tryz.prog 41 #[.pointer (some ⟨b, 0, none⟩)] w fun e w' => e = .returned (.int .i64 x) ∧ WD w' q p Y T (grow F w w') ∧ Touch F w w' := by
  have hc := wsync_any q p X S F bT w (by decide) hd hX hS
  have hy' := hy
  rw [show wcall X S false (S.sync bT.data.toList) = (Y, T, x) from hy'] at hc
  have HC := Lib.hid hc
  clear hd hX hS hc hy hy'
  have hm : ∀ W : World, (method 332 40 (.pointer (some ⟨q, 0, none⟩)) "Sync").run Tryz.prog W = .ok (167, .pointer (some ⟨q, 0, none⟩)) W := fun _ => by kernel_rfl
  go_enter Tryz.func41, Tryz.ntmps41
  go_wp2_with (go_at_call 167; refine HC.out.mono ?_; rintro e w1 ⟨rfl, h1, h2⟩; have H1 := Lib.hid h1; have H2 := Lib.hid h2; clear h1 h2)
  go_ret
  exact ⟨rfl, H1.out, H2.out⟩

set_option maxRecDepth 100000 in
set_option maxHeartbeats 2000000 in
theorem aw4_any (b b2 q p : Nat) (X : Wnd) (S : Drv) (F : Nat → Prop) (w : World) (hd : WD w q p X S F) (hX : X.Ok) (hS : S.Small) (hb : w.cell? ⟨b, 0, none⟩ = some (.iface 40 (.pointer (some ⟨q, 0, none⟩)))) (nm : ByteArray) (hnm : nm.size ≤ maxLen) (hb2 : w.cell? ⟨b2, 0, none⟩ = some (.string nm)) (Y : Wnd) (T : Drv) (x : Int) (hy : wcall X S false (S.rename bT.data.toList nm.data.toList) = (Y, T, x)) :
    Calls Tryz.prog 42 #[.pointer (some ⟨b, 0, none⟩), .pointer (some ⟨b2, 0, none⟩)] w fun e w' => e = .returned (.int .i64 x) ∧ WD w' q p Y T (grow F w w') ∧ Touch F w w' := by
  have hc := wrename_any q p X S F bT nm w (by decide) hnm hd hX hS
  have hy' := hy
  rw [show wcall X S false (S.rename bT.data.toList nm.data.toList) = (Y, T, x) from hy'] at hc
  have HC := Lib.hid hc
  clear hd hX hS hc hy hy'
  have hm : ∀ W : World, (method 332 40 (.pointer (some ⟨q, 0, none⟩)) "Rename").run Tryz.prog W = .ok (166, .pointer (some ⟨q, 0, none⟩)) W := fun _ => by kernel_rfl
  go_enter Tryz.func42, Tryz.ntmps42
  go_wp2_with (go_at_call 166; refine HC.out.mono ?_; rintro e w1 ⟨rfl, h1, h2⟩; have H1 := Lib.hid h1; have H2 := Lib.hid h2; clear h1 h2)
  go_ret
  exact ⟨rfl, H1.out, H2.out⟩

theorem awFrom_go {nm : Nm} {bs : List UInt8} {n k : Nat} {Z : Wnd × Drv} {Y : Wnd} {T : Drv} (h : awStep nm bs Z k = (Y, T, 0)) : awFrom nm bs (n + 1) k Z = awFrom nm bs n (k + 1) (Y, T) := by
  show (if _ then _ else _) = _
  rw [h, if_pos rfl]
theorem awFrom_stop {nm : Nm} {bs : List UInt8} {n k : Nat} {Z : Wnd × Drv} {Y : Wnd} {T : Drv} {x : Int} (h : awStep nm bs Z k = (Y, T, x)) (hx : x ≠ 0) : awFrom nm bs (n + 1) k Z = (Y, T, x) := by
  show (if _ then _ else _) = _
  rw [h, if_neg hx]
/-- A round of the writing: so many steps went well. -/
structure AwAt (X : World) (q p : Nat) (F : Nat → Prop) (nm : Nm) (bs : List UInt8) (R : Wnd × Drv × Int) (c N r : Nat) (s : Value) (wr : World) : Prop where
  ex : ∃ (k : Nat) (Z : Wnd × Drv), k ≤ 5 ∧ s = .int .i64 k ∧ WD wr q p Z.1 Z.2 (grow F X wr) ∧ Touch F X wr ∧ awFrom nm bs (5 - k) k Z = R ∧ Kept Z.1 Z.2 (c + k) (N + k) r

set_option maxRecDepth 100000 in
set_option maxHeartbeats 20000000 in
theorem awrite_any (q p : Nat) (X : Wnd) (S : Drv) (F : Nat → Prop) (nm : ByteArray) (A : Option Addr) (cap : Nat) (bs : List UInt8) (w : World) (c N r : Nat) (hd : WD w q p X S F) (hF : ∀ k, F k → k < w.heap.size)
    (hlook : ∀ W, Calls Tryz.prog 38 #[.iface 40 (.pointer (some ⟨q, 0, none⟩)), .string nm] W fun e w' => e = .returned (.int .i64 0) ∧ W = w') (hnm : nm.size ≤ maxLen)
    (hr : ∀ W, Touch F w W → Reads W W.heap.size 1 A bs.length (bs.map B8)) (hA : ∀ ad, A = some ad → ad.block < w.heap.size ∧ ¬F ad.block) (hcap : bs.length ≤ cap) (hbs : bs.length ≤ 140737488351232)
    (hk : Kept X S c N r) (hc5 : c + 5 ≤ 1152921504606846976) (hN5 : N + 5 ≤ 2199023254000) (hNr : (N + 5) ≤ 1073741824) (Y : Wnd) (T : Drv) (x : Int) (hy : awrite X S nm.data.toList bs = (Y, T, x)) :
    Calls Tryz.prog 10 #[.iface 40 (.pointer (some ⟨q, 0, none⟩)), .string nm, .slice A bs.length cap] w fun e w' => e = .returned (.int .i64 x) ∧ WD w' q p Y T (grow F w w') ∧ Touch F w w' := by
  have hmf : ∀ (fn : Fn) (first cap : Array Value) (w : World), (Instr.makeFunc fn first cap).run Tryz.prog w = .ok (.func fn first cap) w := fun _ _ _ _ => rfl
  have hm : ∀ W : World, (method 332 40 (.pointer (some ⟨q, 0, none⟩)) "SyncDir").run Tryz.prog W = .ok (168, .pointer (some ⟨q, 0, none⟩)) W := fun _ => by kernel_rfl
  have HD := Lib.hid hd
  have HF := Lib.hid hF
  have HR := Lib.hid hr
  have HA := Lib.hid hA
  have HCAP := Lib.hid hcap
  have HBS := Lib.hid hbs
  have HK := Lib.hid hk
  have HNM := Lib.hid hnm
  have HLO := Lib.hid hlook
  have HC5 := Lib.hid hc5
  have HN5 := Lib.hid hN5
  have HNR := Lib.hid hNr
  have hy' : awFrom nm.data.toList bs 5 0 (X, S) = (Y, T, x) := hy
  have HY := Lib.hid hy'
  clear hd hF hr hA hcap hbs hk hnm hlook hc5 hN5 hNr hy hy'
  go_enter Tryz.func10, Tryz.ntmps10
  go_wp2_with (go_at_call 38; refine (HLO.out _).mono ?_; rintro e w' ⟨rfl, rfl⟩)
  refine wp_world fun W0 hX => ?_
  have HK0 : Hid (Blk W0 w.heap.size 91 #[.iface 40 (.pointer (some ⟨q, 0, none⟩))]) := Lib.hid (by rw [hX]; exact (((Blk.new w _ _).alloc _).alloc _).alloc _)
  have HK1 : Hid (Blk W0 (w.heap.size + 1) 9 #[.string nm]) := Lib.hid (by rw [hX]; exact ((blk_last _ _ _ _ (by simp only [alloc_size])).alloc _).alloc _)
  have HK2 : Hid (Blk W0 (w.heap.size + 1 + 1) 26 #[.slice A bs.length cap]) := Lib.hid (by rw [hX]; exact (blk_last _ _ _ _ (by simp only [alloc_size])).alloc _)
  have HK3 : Hid (Blk W0 (w.heap.size + 1 + 1 + 1) 93 #[.func (.func 39) #[] #[.pointer (some ⟨w.heap.size, 0, none⟩)], .func (.func 40) #[] #[.pointer (some ⟨w.heap.size, 0, none⟩), .pointer (some ⟨w.heap.size + 1 + 1, 0, none⟩)], .func (.func 41) #[] #[.pointer (some ⟨w.heap.size, 0, none⟩)], .func (.func 42) #[] #[.pointer (some ⟨w.heap.size, 0, none⟩), .pointer (some ⟨w.heap.size + 1, 0, none⟩)], .func (.method "SyncDir") #[.iface 40 (.pointer (some ⟨q, 0, none⟩))] #[]]) := Lib.hid (by rw [hX]; exact blk_last _ _ _ _ (by simp only [alloc_size]))
  have HBX : Hid (Below w.heap.size w W0) := Lib.hid (by rw [hX]; exact ((((Below.refl _ w).alloc (Nat.le_refl _) _).alloc (by simp only [alloc_size]; omega) _).alloc (by simp only [alloc_size]; omega) _).alloc (by simp only [alloc_size]; omega) _)
  have HXS : Hid (w.heap.size ≤ W0.heap.size) := Lib.hid HBX.out.size
  clear hX
  have HN : Hid (∀ i, w.heap.size ≤ i → ¬F i) := Lib.hid fun i hi hf => by have := HF.out i hf; omega
  have HWT : Hid (∀ W, Touch F W0 W → Touch F w W) := Lib.hid fun W h => (Touch.of_below HBX.out).trans (h.mono fun i _ hi => .inl hi)
  have HFI : Hid (∀ W, Touch F W0 W → ∀ i, grow F W0 W i → grow F w W i) := Lib.hid fun W ht i hi => by
    rcases hi with hi | ⟨h1, h2⟩
    · exact .inl hi
    · exact .inr ⟨Nat.le_trans HXS.out h1, h2⟩
  go_loopw [9, 10, 26] (fun _ _ s26 wr => AwAt W0 q p F nm.data.toList bs (Y, T, x) c N r s26 wr) (fun _ _ s _ => 5 - (intOf s).toNat)
  case atStart => exact ⟨0, (X, S), Nat.zero_le _, rfl, (WD.below HD.out HBX.out).mono fun i hi => .inl hi, Touch.refl _ _, HY.out, HK.out⟩
  case round =>
    obtain ⟨k, Z, hk, rfl, hd, ht, hz, hkp⟩ := hrel.ex
    clear hrel
    have HD1 := Lib.hid hd
    have HT1 := Lib.hid ht
    have HZ := Lib.hid hz
    have HKP := Lib.hid hkp
    have HOKX : Hid Z.1.Ok := Lib.hid (hkp.wnd.ok (by have := HC5.out; omega))
    have HSM : Hid Z.2.Small := Lib.hid (hkp.drv.small (by have := HN5.out; omega))
    have hsz := ht.size
    have c0 : wr.cell? ⟨w.heap.size, 0, none⟩ = some (.iface 40 (.pointer (some ⟨q, 0, none⟩))) := (HK0.out.touch ht (HN.out _ (by omega))).cell 0
    have c1 : wr.cell? ⟨w.heap.size + 1, 0, none⟩ = some (.string nm) := (HK1.out.touch ht (HN.out _ (by omega))).cell 0
    have c2 : wr.cell? ⟨w.heap.size + 1 + 1, 0, none⟩ = some (.slice A bs.length cap) := (HK2.out.touch ht (HN.out _ (by omega))).cell 0
    have HK3r := Lib.hid (HK3.out.touch ht (HN.out _ (by omega)))
    have HC0 := Lib.hid c0
    have HC1 := Lib.hid c1
    have HC2 := Lib.hid c2
    clear hd ht c0 c1 c2 hz hkp
    by_cases hlt : k < 5
    · obtain rfl | rfl | rfl | rfl | rfl : k = 0 ∨ k = 1 ∨ k = 2 ∨ k = 3 ∨ k = 4 := by omega
      · have y : wr.cell? ⟨w.heap.size + 1 + 1 + 1, 0, none⟩ = some (.func (.func 39) #[] #[.pointer (some ⟨w.heap.size, 0, none⟩)]) := HK3r.out.cell 0
        obtain ⟨Y1, T1, x1, h1⟩ : ∃ Y1 T1 x1, awStep nm.data.toList bs Z 0 = (Y1, T1, x1) := ⟨_, _, _, rfl⟩
        have HST := Lib.hid h1
        have HKN : Hid (Kept Y1 T1 (c + 1) (N + 1) r) := Lib.hid (by
          have := awStep_kept HKP.out nm.data.toList bs 0 ((by have := HNR.out; omega))
          rw [h1] at this
          exact this)
        clear h1
        by_cases hx1 : x1 = 0
        · subst hx1
          have HGO := Lib.hid (awFrom_go (n := 4) HST.out)
          go_wp2_with (go_at_call 39; refine (aw1_any w.heap.size q p Z.1 Z.2 _ wr HD1.out HOKX.out HSM.out HC0.out Y1 T1 0 HST.out).mono ?_; rintro e w1 ⟨rfl, hd1, ht1⟩; have HD2 := Lib.hid hd1; have HT2 := Lib.hid ht1; clear hd1 ht1)
          go_roundw
          case rel => exact ⟨1, (Y1, T1), by omega, by go_num, HD2.out.mono fun i hi => (grow_trans hsz HT2.out.size i).1 hi, HT1.out.trans HT2.out, HGO.out.symm.trans HZ.out, HKN.out⟩
          case measure => first | (simp [intOf]; done) | (simp [intOf]; omega)
        · have HGO := Lib.hid ((awFrom_stop (n := 4) HST.out hx1).symm.trans HZ.out)
          have hx2 : (x1 != 0) = true := by simp [hx1]
          clear hx1
          go_wp2_with (go_at_call 39; refine (aw1_any w.heap.size q p Z.1 Z.2 _ wr HD1.out HOKX.out HSM.out HC0.out Y1 T1 x1 HST.out).mono ?_; rintro e w1 ⟨rfl, hd1, ht1⟩; have HD2 := Lib.hid hd1; have HT2 := Lib.hid ht1; clear hd1 ht1)
          go_ret
          have hT := HT1.out.trans HT2.out
          have e1 := HGO.out
          injection e1 with e1 e2
          injection e2 with e2 e3
          subst e1 e2 e3
          exact ⟨rfl, HD2.out.mono fun i hi => HFI.out _ hT i ((grow_trans hsz HT2.out.size i).1 hi), HWT.out _ hT⟩
      · have y : wr.cell? ⟨w.heap.size + 1 + 1 + 1, 1, none⟩ = some (.func (.func 40) #[] #[.pointer (some ⟨w.heap.size, 0, none⟩), .pointer (some ⟨w.heap.size + 1 + 1, 0, none⟩)]) := HK3r.out.cell 1
        obtain ⟨Y1, T1, x1, h1⟩ : ∃ Y1 T1 x1, awStep nm.data.toList bs Z 1 = (Y1, T1, x1) := ⟨_, _, _, rfl⟩
        have HST := Lib.hid h1
        have HKN : Hid (Kept Y1 T1 (c + 2) (N + 2) r) := Lib.hid (by
          have := awStep_kept HKP.out nm.data.toList bs 1 ((by have := HNR.out; omega))
          rw [h1] at this
          exact this)
        clear h1
        by_cases hx1 : x1 = 0
        · subst hx1
          have HGO := Lib.hid (awFrom_go (n := 3) HST.out)
          go_wp2_with (go_at_call 40; refine (aw2_any w.heap.size (w.heap.size + 1 + 1) q p Z.1 Z.2 _ wr HD1.out HOKX.out HSM.out HC0.out A cap bs HC2.out (HR.out wr (HWT.out wr HT1.out)) (fun ad e hf => by have h1 := HA.out ad e; rcases hf with hf | ⟨h2, _⟩; exact h1.2 hf; have h3 := HXS.out; omega) HCAP.out HBS.out Y1 T1 0 HST.out).mono ?_; rintro e w1 ⟨rfl, hd1, ht1⟩; have HD2 := Lib.hid hd1; have HT2 := Lib.hid ht1; clear hd1 ht1)
          go_roundw
          case rel => exact ⟨2, (Y1, T1), by omega, by go_num, HD2.out.mono fun i hi => (grow_trans hsz HT2.out.size i).1 hi, HT1.out.trans HT2.out, HGO.out.symm.trans HZ.out, HKN.out⟩
          case measure => first | (simp [intOf]; done) | (simp [intOf]; omega)
        · have HGO := Lib.hid ((awFrom_stop (n := 3) HST.out hx1).symm.trans HZ.out)
          have hx2 : (x1 != 0) = true := by simp [hx1]
          clear hx1
          go_wp2_with (go_at_call 40; refine (aw2_any w.heap.size (w.heap.size + 1 + 1) q p Z.1 Z.2 _ wr HD1.out HOKX.out HSM.out HC0.out A cap bs HC2.out (HR.out wr (HWT.out wr HT1.out)) (fun ad e hf => by have h1 := HA.out ad e; rcases hf with hf | ⟨h2, _⟩; exact h1.2 hf; have h3 := HXS.out; omega) HCAP.out HBS.out Y1 T1 x1 HST.out).mono ?_; rintro e w1 ⟨rfl, hd1, ht1⟩; have HD2 := Lib.hid hd1; have HT2 := Lib.hid ht1; clear hd1 ht1)
          go_ret
          have hT := HT1.out.trans HT2.out
          have e1 := HGO.out
          injection e1 with e1 e2
          injection e2 with e2 e3
          subst e1 e2 e3
          exact ⟨rfl, HD2.out.mono fun i hi => HFI.out _ hT i ((grow_trans hsz HT2.out.size i).1 hi), HWT.out _ hT⟩
      · have y : wr.cell? ⟨w.heap.size + 1 + 1 + 1, 2, none⟩ = some (.func (.func 41) #[] #[.pointer (some ⟨w.heap.size, 0, none⟩)]) := HK3r.out.cell 2
        obtain ⟨Y1, T1, x1, h1⟩ : ∃ Y1 T1 x1, awStep nm.data.toList bs Z 2 = (Y1, T1, x1) := ⟨_, _, _, rfl⟩
        have HST := Lib.hid h1
        have HKN : Hid (Kept Y1 T1 (c + 3) (N + 3) r) := Lib.hid (by
          have := awStep_kept HKP.out nm.data.toList bs 2 ((by have := HNR.out; omega))
          rw [h1] at this
          exact this)
        clear h1
        by_cases hx1 : x1 = 0
        · subst hx1
          have HGO := Lib.hid (awFrom_go (n := 2) HST.out)
          go_wp2_with (go_at_call 41; refine (aw3_any w.heap.size q p Z.1 Z.2 _ wr HD1.out HOKX.out HSM.out HC0.out Y1 T1 0 HST.out).mono ?_; rintro e w1 ⟨rfl, hd1, ht1⟩; have HD2 := Lib.hid hd1; have HT2 := Lib.hid ht1; clear hd1 ht1)
          go_roundw
          case rel => exact ⟨3, (Y1, T1), by omega, by go_num, HD2.out.mono fun i hi => (grow_trans hsz HT2.out.size i).1 hi, HT1.out.trans HT2.out, HGO.out.symm.trans HZ.out, HKN.out⟩
          case measure => first | (simp [intOf]; done) | (simp [intOf]; omega)
        · have HGO := Lib.hid ((awFrom_stop (n := 2) HST.out hx1).symm.trans HZ.out)
          have hx2 : (x1 != 0) = true := by simp [hx1]
          clear hx1
          go_wp2_with (go_at_call 41; refine (aw3_any w.heap.size q p Z.1 Z.2 _ wr HD1.out HOKX.out HSM.out HC0.out Y1 T1 x1 HST.out).mono ?_; rintro e w1 ⟨rfl, hd1, ht1⟩; have HD2 := Lib.hid hd1; have HT2 := Lib.hid ht1; clear hd1 ht1)
          go_ret
          have hT := HT1.out.trans HT2.out
          have e1 := HGO.out
          injection e1 with e1 e2
          injection e2 with e2 e3
          subst e1 e2 e3
          exact ⟨rfl, HD2.out.mono fun i hi => HFI.out _ hT i ((grow_trans hsz HT2.out.size i).1 hi), HWT.out _ hT⟩
      · have y : wr.cell? ⟨w.heap.size + 1 + 1 + 1, 3, none⟩ = some (.func (.func 42) #[] #[.pointer (some ⟨w.heap.size, 0, none⟩), .pointer (some ⟨w.heap.size + 1, 0, none⟩)]) := HK3r.out.cell 3
        obtain ⟨Y1, T1, x1, h1⟩ : ∃ Y1 T1 x1, awStep nm.data.toList bs Z 3 = (Y1, T1, x1) := ⟨_, _, _, rfl⟩
        have HST := Lib.hid h1
        have HKN : Hid (Kept Y1 T1 (c + 4) (N + 4) r) := Lib.hid (by
          have := awStep_kept HKP.out nm.data.toList bs 3 ((by have := HNR.out; omega))
          rw [h1] at this
          exact this)
        clear h1
        by_cases hx1 : x1 = 0
        · subst hx1
          have HGO := Lib.hid (awFrom_go (n := 1) HST.out)
          go_wp2_with (go_at_call 42; refine (aw4_any w.heap.size (w.heap.size + 1) q p Z.1 Z.2 _ wr HD1.out HOKX.out HSM.out HC0.out nm HNM.out HC1.out Y1 T1 0 HST.out).mono ?_; rintro e w1 ⟨rfl, hd1, ht1⟩; have HD2 := Lib.hid hd1; have HT2 := Lib.hid ht1; clear hd1 ht1)
          go_roundw
          case rel => exact ⟨4, (Y1, T1), by omega, by go_num, HD2.out.mono fun i hi => (grow_trans hsz HT2.out.size i).1 hi, HT1.out.trans HT2.out, HGO.out.symm.trans HZ.out, HKN.out⟩
          case measure => first | (simp [intOf]; done) | (simp [intOf]; omega)
        · have HGO := Lib.hid ((awFrom_stop (n := 1) HST.out hx1).symm.trans HZ.out)
          have hx2 : (x1 != 0) = true := by simp [hx1]
          clear hx1
          go_wp2_with (go_at_call 42; refine (aw4_any w.heap.size (w.heap.size + 1) q p Z.1 Z.2 _ wr HD1.out HOKX.out HSM.out HC0.out nm HNM.out HC1.out Y1 T1 x1 HST.out).mono ?_; rintro e w1 ⟨rfl, hd1, ht1⟩; have HD2 := Lib.hid hd1; have HT2 := Lib.hid ht1; clear hd1 ht1)
          go_ret
          have hT := HT1.out.trans HT2.out
          have e1 := HGO.out
          injection e1 with e1 e2
          injection e2 with e2 e3
          subst e1 e2 e3
          exact ⟨rfl, HD2.out.mono fun i hi => HFI.out _ hT i ((grow_trans hsz HT2.out.size i).1 hi), HWT.out _ hT⟩
      · have y : wr.cell? ⟨w.heap.size + 1 + 1 + 1, 4, none⟩ = some (.func (.method "SyncDir") #[.iface 40 (.pointer (some ⟨q, 0, none⟩))] #[]) := HK3r.out.cell 4
        obtain ⟨Y1, T1, x1, h1⟩ : ∃ Y1 T1 x1, awStep nm.data.toList bs Z 4 = (Y1, T1, x1) := ⟨_, _, _, rfl⟩
        have HST := Lib.hid h1
        have HKN : Hid (Kept Y1 T1 (c + 5) (N + 5) r) := Lib.hid (by
          have := awStep_kept HKP.out nm.data.toList bs 4 ((by have := HNR.out; omega))
          rw [h1] at this
          exact this)
        clear h1
        have HSD : Hid (Calls Tryz.prog 168 #[.pointer (some ⟨q, 0, none⟩)] wr fun e w' => e = .returned (.int .i64 x1) ∧ WD w' q p Y1 T1 (grow (grow F W0 wr) wr w') ∧ Touch (grow F W0 wr) wr w') := Lib.hid (by
          have := wsyncDir_any q p Z.1 Z.2 _ wr HD1.out HOKX.out HSM.out
          rw [show wcall Z.1 Z.2 false (Z.2.syncDir, 0) = (Y1, T1, x1) from HST.out] at this
          exact this)
        by_cases hx1 : x1 = 0
        · subst hx1
          have HGO := Lib.hid (awFrom_go (n := 0) HST.out)
          go_wp2_with (go_at_call 168; refine HSD.out.mono ?_; rintro e w1 ⟨rfl, hd1, ht1⟩; have HD2 := Lib.hid hd1; have HT2 := Lib.hid ht1; clear hd1 ht1)
          go_roundw
          case rel => exact ⟨5, (Y1, T1), by omega, by go_num, HD2.out.mono fun i hi => (grow_trans hsz HT2.out.size i).1 hi, HT1.out.trans HT2.out, HGO.out.symm.trans HZ.out, HKN.out⟩
          case measure => first | (simp [intOf]; done) | (simp [intOf]; omega)
        · have HGO := Lib.hid ((awFrom_stop (n := 0) HST.out hx1).symm.trans HZ.out)
          have hx2 : (x1 != 0) = true := by simp [hx1]
          clear hx1
          go_wp2_with (go_at_call 168; refine HSD.out.mono ?_; rintro e w1 ⟨rfl, hd1, ht1⟩; have HD2 := Lib.hid hd1; have HT2 := Lib.hid ht1; clear hd1 ht1)
          go_ret
          have hT := HT1.out.trans HT2.out
          have e1 := HGO.out
          injection e1 with e1 e2
          injection e2 with e2 e3
          subst e1 e2 e3
          exact ⟨rfl, HD2.out.mono fun i hi => HFI.out _ hT i ((grow_trans hsz HT2.out.size i).1 hi), HWT.out _ hT⟩
    · obtain rfl : k = 5 := by omega
      have e1 : (Z.1, Z.2, (0 : Int)) = (Y, T, x) := HZ.out
      injection e1 with e1 e2
      injection e2 with e2 e3
      subst e1 e2 e3
      go_wp2
      go_ret
      exact ⟨rfl, HD1.out.mono fun i hi => HFI.out _ HT1.out i hi, HWT.out wr HT1.out⟩
end Go.Proofs.YtdmcjomcbhdcbaaGreat
namespace Go.Proofs.YtdmcjomcbhdcbaaGreat
open Go.RowKit Go.Maps

def dcells (dv : Value) (g : GCells) : Array Value := #[dv, .bool g.d, .bool g.a, .slice g.pa g.pn g.pc, .int .i64 g.k, .int .i64 g.r, .bool g.laid, .int .i64 g.R, .int .i64 g.C, .int .i64 g.I]
/-- The gate of a disk, at q. -/
structure GtAt (w : World) (q : Nat) (dv : Value) (X : Wnd) (g : GCells) : Prop where
  head : Blk w q 127 (dcells dv g)
  of : GateOf X g
  plan : w.ownsRow 0 181 2 (.slice g.pa g.pn g.pc) g.pn (planCells X.plan)
def Gt (w : World) (q : Nat) (dv : Value) (X : Wnd) (F : Nat → Prop) : Prop := ∃ g, GtAt w q dv X g ∧ F q ∧ ∀ k, (Value.slice g.pa g.pn g.pc).ownBlock = some k → F k
section
variable {w w' : World} {q : Nat} {dv : Value} {X : Wnd} {F G : Nat → Prop}
theorem Gt.keep (h : Gt w q dv X F) (ht : Touch G w w') (hd : ∀ k, F k → ¬G k) : Gt w' q dv X F := by
  obtain ⟨g, h, hq, hF⟩ := h
  exact ⟨g, ⟨(ht.block q h.head.lt (hd q hq)).trans h.head, h.of, ownsRow_keep h.plan fun k e => ht.block k (h.plan.lt k e).2 (hd k (hF k e))⟩, hq, hF⟩
theorem Gt.mono (h : Gt w q dv X F) (hFG : ∀ k, F k → G k) : Gt w q dv X G := by
  obtain ⟨g, h, hq, hF⟩ := h; exact ⟨g, h, hFG q hq, fun k e => hFG k (hF k e)⟩
theorem Gt.lt (h : Gt w q dv X F) : Gt w q dv X fun k => F k ∧ k < w.heap.size := by
  obtain ⟨g, h, hq, hF⟩ := h; exact ⟨g, h, ⟨hq, h.head.lt⟩, fun k e => ⟨hF k e, (h.plan.lt k e).2⟩⟩
end
structure DKp (w : World) (q p : Nat) (X : Wnd) (S : Drv) (FG FM : Nat → Prop) : Prop where
  gt : Gt w q (.pointer (some ⟨p, 0, none⟩)) X FG
  md : Md w p S FM
  glt : ∀ k, FG k → k < w.heap.size
  mlt : ∀ k, FM k → k < w.heap.size
  no : ∀ k, FG k → ¬FM k
/-- A disk of the document's: its gate and its drive, within the blocks F. -/
def DK (w : World) (q p : Nat) (X : Wnd) (S : Drv) (F : Nat → Prop) : Prop := ∃ FG FM, DKp w q p X S FG FM ∧ ∀ k, FG k ∨ FM k → F k
section
variable {w w1 : World} {q p : Nat} {X Y : Wnd} {S T : Drv} {F G FG FM : Nat → Prop}
theorem DK.mono (h : DK w q p X S F) (hFG : ∀ k, F k → G k) : DK w q p X S G := by
  obtain ⟨FG, FM, h, hf⟩ := h; exact ⟨FG, FM, h, fun k hk => hFG k (hf k hk)⟩
theorem DK.keep (h : DK w q p X S F) (ht : Touch G w w1) (hd : ∀ k, F k → ¬G k) : DK w1 q p X S F := by
  obtain ⟨FG, FM, h, hf⟩ := h
  exact ⟨FG, FM, ⟨h.gt.keep ht fun k hk => hd k (hf k (.inl hk)), h.md.keep ht fun k hk => hd k (hf k (.inr hk)), fun k hk => Nat.lt_of_lt_of_le (h.glt k hk) ht.size, fun k hk => Nat.lt_of_lt_of_le (h.mlt k hk) ht.size, h.no⟩, hf⟩
theorem DK.below (h : DK w q p X S F) (hb : Below w.heap.size w w1) : DK w1 q p X S F := h.keep (Touch.of_below (F := fun _ => False) hb) fun _ _ h => h
theorem DK.lt (h : DK w q p X S F) : DK w q p X S fun k => F k ∧ k < w.heap.size := by
  obtain ⟨FG, FM, h, hf⟩ := h
  refine ⟨FG, FM, h, fun k hk => ⟨hf k hk, ?_⟩⟩
  rcases hk with hk | hk
  · exact h.glt k hk
  · exact h.mlt k hk
/-- A step of the drive of a disk. -/
theorem DKp.drive (h : DKp w q p X S FG FM) (hF : ∀ k, FG k ∨ FM k → F k) (hm : Md w1 p T (grow FM w w1)) (ht : Touch FM w w1) : DK w1 q p X T (grow F w w1) ∧ Touch F w w1 := by
  refine ⟨⟨FG, grow FM w w1, ⟨h.gt.keep ht fun k hk hd => h.no k hk hd, hm, fun k hk => Nat.lt_of_lt_of_le (h.glt k hk) ht.size, fun k hk => ?_, fun k hk hd => ?_⟩, fun k hk => ?_⟩, ht.mono fun k _ hk => hF k (.inr hk)⟩
  · rcases hk with hk | hk
    · exact Nat.lt_of_lt_of_le (h.mlt k hk) ht.size
    · exact hk.2
  · rcases hd with hd | hd
    · exact h.no k hk hd
    · have := h.glt k hk; omega
  · rcases hk with hk | hk | hk
    · exact .inl (hF k (.inl hk))
    · exact .inl (hF k (.inr hk))
    · exact .inr hk
/-- A step of the gate of a disk. -/
theorem DKp.gate (h : DKp w q p X S FG FM) (hF : ∀ k, FG k ∨ FM k → F k) (hg : Gt w1 q (.pointer (some ⟨p, 0, none⟩)) Y (grow FG w w1)) (ht : Touch FG w w1) : DK w1 q p Y S (grow F w w1) ∧ Touch F w w1 := by
  refine ⟨⟨grow FG w w1, FM, ⟨hg, h.md.keep ht fun k hk hd => h.no k hd hk, fun k hk => ?_, fun k hk => Nat.lt_of_lt_of_le (h.mlt k hk) ht.size, fun k hk hd => ?_⟩, fun k hk => ?_⟩, ht.mono fun k _ hk => hF k (.inl hk)⟩
  · rcases hk with hk | hk
    · exact Nat.lt_of_lt_of_le (h.glt k hk) ht.size
    · exact hk.2
  · rcases hk with hk | hk
    · exact h.no k hk hd
    · have := h.mlt k hd; omega
  · rcases hk with (hk | hk) | hk
    · exact .inl (hF k (.inl hk))
    · exact .inr hk
    · exact .inl (hF k (.inr hk))
end

/-- A wound and a disk side by side, all of both at h or above. -/
def Twin (w : World) (h q p mq mp : Nat) (X : Wnd) (S : Drv) (Y : Wnd) (T : Drv) : Prop :=
  ∃ F1 F2 : Nat → Prop, WD w q p X S F1 ∧ DK w mq mp Y T F2 ∧ (∀ k, F1 k → h ≤ k ∧ k < w.heap.size) ∧ (∀ k, F2 k → h ≤ k ∧ k < w.heap.size) ∧ ∀ k, F1 k → ¬F2 k
section
variable {w w1 : World} {h q p mq mp : Nat} {X X' Y Y' : Wnd} {S S' T T' : Drv}
theorem Twin.wound {F1 F2 : Nat → Prop} (hh : h ≤ w.heap.size) (hd : DK w mq mp Y T F2) (h1 : ∀ k, F1 k → h ≤ k ∧ k < w.heap.size) (h2 : ∀ k, F2 k → h ≤ k ∧ k < w.heap.size) (hno : ∀ k, F1 k → ¬F2 k)
    (hw : WD w1 q p X' S' (grow F1 w w1)) (ht : Touch F1 w w1) : Twin w1 h q p mq mp X' S' Y T ∧ Below h w w1 := by
  have hs := ht.size
  refine ⟨⟨grow F1 w w1, F2, hw, hd.keep ht fun k hk hf => hno k hf hk, fun k hk => ?_, fun k hk => ?_, fun k hk hf => ?_⟩, ht.below hh fun k hk => (h1 k hk).1⟩
  · rcases hk with hk | hk
    · have := h1 k hk; omega
    · omega
  · have := h2 k hk; omega
  · rcases hk with hk | hk
    · exact hno k hk hf
    · have := h2 k hf; omega
theorem Twin.disk {F1 F2 : Nat → Prop} (hh : h ≤ w.heap.size) (hd : WD w q p X S F1) (h1 : ∀ k, F1 k → h ≤ k ∧ k < w.heap.size) (h2 : ∀ k, F2 k → h ≤ k ∧ k < w.heap.size) (hno : ∀ k, F1 k → ¬F2 k)
    (hw : DK w1 mq mp Y' T' (grow F2 w w1)) (ht : Touch F2 w w1) : Twin w1 h q p mq mp X S Y' T' ∧ Below h w w1 := by
  have hs := ht.size
  refine ⟨⟨F1, grow F2 w w1, hd.keep ht hno, hw, fun k hk => ?_, fun k hk => ?_, fun k hk hf => ?_⟩, ht.below hh fun k hk => (h2 k hk).1⟩
  · have := h1 k hk; omega
  · rcases hk with hk | hk
    · have := h2 k hk; omega
    · omega
  · rcases hf with hf | hf
    · exact hno k hk hf
    · have := h1 k hk; omega
theorem Twin.below (hT : Twin w h q p mq mp X S Y T) (hb : Below w.heap.size w w1) : Twin w1 h q p mq mp X S Y T := by
  obtain ⟨F1, F2, a, b, h1, h2, hno⟩ := hT
  have hs := hb.size
  exact ⟨F1, F2, WD.below a hb, b.below hb, fun k hk => by have := h1 k hk; omega, fun k hk => by have := h2 k hk; omega, hno⟩
/-- A call that takes a wound on. -/
theorem Twin.on_wound {f : Nat} {ar : Array Value} {Q : Ending → World → Prop} (hT : Twin w h q p mq mp X S Y T) (hh : h ≤ w.heap.size)
    (hc : ∀ F, WD w q p X S F → Calls Tryz.prog f ar w fun e w' => ∃ X' S', WD w' q p X' S' (grow F w w') ∧ Touch F w w' ∧ (Twin w' h q p mq mp X' S' Y T → Below h w w' → Q e w')) : Calls Tryz.prog f ar w Q := by
  obtain ⟨F1, F2, a, b, h1, h2, hno⟩ := hT
  refine (hc F1 a).mono ?_
  rintro e w' ⟨X', S', hw, ht, hq⟩
  obtain ⟨k1, k2⟩ := Twin.wound hh b h1 h2 hno hw ht
  exact hq k1 k2
theorem Twin.on_disk {f : Nat} {ar : Array Value} {Q : Ending → World → Prop} (hT : Twin w h q p mq mp X S Y T) (hh : h ≤ w.heap.size)
    (hc : ∀ F, DK w mq mp Y T F → Calls Tryz.prog f ar w fun e w' => ∃ Y' T', DK w' mq mp Y' T' (grow F w w') ∧ Touch F w w' ∧ (Twin w' h q p mq mp X S Y' T' → Below h w w' → Q e w')) : Calls Tryz.prog f ar w Q := by
  obtain ⟨F1, F2, a, b, h1, h2, hno⟩ := hT
  refine (hc F2 b).mono ?_
  rintro e w' ⟨Y', T', hw, ht, hq⟩
  obtain ⟨k1, k2⟩ := Twin.disk hh a h1 h2 hno hw ht
  exact hq k1 k2
end

theorem mdnew_nil (w : World) : Calls Tryz.prog 34 #[.pointer none] w fun e w' => e = .returned (.pointer none) ∧ w = w' := by
  go_enter Tryz.func34, Tryz.ntmps34
  go_wp2
  go_ret
  exact ⟨rfl, rfl⟩
def g0 : GCells := ⟨false, false, none, 0, 0, 0, 0, false, 0, 0, 0⟩
theorem mdnew_any (p : Nat) (w : World) : Calls Tryz.prog 34 #[.pointer (some ⟨p, 0, none⟩)] w fun e w' =>
    e = .returned (.pointer (some ⟨w.heap.size, 0, none⟩)) ∧ GtAt w' w.heap.size (.pointer (some ⟨p, 0, none⟩)) Wnd.new g0 ∧ Below w.heap.size w w' ∧ w'.heap.size = w.heap.size + 1 := by
  go_enter Tryz.func34, Tryz.ntmps34
  go_wp2
  go_ret
  exact ⟨rfl, ⟨Blk.new _ _ _, GateOf.new, World.ownsRow_nil _ _ _ _⟩, (Below.refl _ w).alloc (Nat.le_refl _) _, by simp⟩

end Go.Proofs.YtdmcjomcbhdcbaaGreat

/- The power goes and comes back, in a world of one drive.; The power comes back, in a world of one drive.; An act: the power goes, or comes back. (Printed by gen_Sb.py.) -/
import Derived.Test.YtdmcjomcbhdcbaaGreatM33
import Derived.Test.YtdmcjomcbhdcbaaGreatM25
namespace Go.Proofs.YtdmcjomcbhdcbaaGreat
open Go.RowKit Go.Maps

theorem dcrash_any (q p : Nat) (X : Wnd) (S : Drv) {N : Nat} (F : Nat → Prop) (pr : Option Addr) (nd cr : Nat) (dirs : List Bool) (pc : Option Addr) (nc cc : Nat) (cuts : List Int) (w : World) (hd : DK w q p X S F) (hI : S.Inv N) (hRf : S.Refs) (hft : FateIn w pr nd dirs pc nc cuts) :
    Calls Tryz.prog 96 #[.pointer (some ⟨q, 0, none⟩), .agg #[.slice pr nd cr, .slice pc nc cc]] w fun e w' => e = .returned (.tuple #[]) ∧ DK w' q p X (S.crash dirs cuts) (grow F w w') ∧ Touch F w w' := by
  obtain ⟨h0, _⟩ := hd.head
  have HC : Hid (∀ W, Below w.heap.size w W → Calls Tryz.prog 114 #[.pointer (some ⟨p, 0, none⟩), .agg #[.slice pr nd cr, .slice pc nc cc]] W fun e w' => e = .returned (.int .i64 0) ∧ DK w' q p X (S.crash dirs cuts) (grow F w w') ∧ Touch F w w') := Lib.hid fun W hb => by
    refine ((hd.below hb).call (R := fun e _ => e = .returned (.int .i64 0)) fun FM hM => mcrash_any p S FM pr nd cr dirs pc nc cc cuts _ hM hI hRf (hft.keep hb)).mono ?_
    rintro e w' ⟨he, h1, h2⟩
    refine ⟨he, h1.mono fun k hk => ?_, (Touch.of_below hb).then_ h2⟩
    rcases hk with hk | hk
    · exact .inl hk
    · have := hb.size; exact .inr ⟨by omega, hk.2⟩
  clear hd hI hRf hft
  go_enter Tryz.func96, Tryz.ntmps96
  go_wp2
  go_region_with (go_at_call 114; refine (HC.out _ (below_drew1 ((Below.refl _ w).alloc (Nat.le_refl _) _))).mono ?_; rintro e w1 ⟨rfl, hd1, ht1⟩; have HD1 := Lib.hid hd1; have HT1 := Lib.hid ht1; clear hd1 ht1)
  all_goals
    go_end0
    exact ⟨rfl, HD1.out, HT1.out⟩

end Go.Proofs.YtdmcjomcbhdcbaaGreat
namespace Go.Proofs.YtdmcjomcbhdcbaaGreat
open Go.RowKit Go.Maps

theorem boolInfo : (Tryz.prog.info? 4).map (fun i => (i.zero, i.size, i.bytes)) = some (some (.bool false), 1, 1) := by kernel_rfl
theorem intInfo : (Tryz.prog.info? 3).map (fun i => (i.zero, i.size, i.bytes)) = some (some (.int .i64 0), 1, 8) := by kernel_rfl
theorem own_spot {w : World} {base size n : Nat} {e : TypeId} {a : Option Addr} {m c : Nat} {xs : List Value} (h : w.ownsRow base e size (.slice a m c) n xs) : ∀ ad, a = some ad → 0 < n → ad.spot = none := fun ad e _ => by
  rcases h.2 with ⟨e2, _⟩ | ⟨g, _, _, e2, _⟩
  · injection e2 with e2 _ _; rw [e] at e2; cases e2
  · injection e2 with e2 _ _; rw [e] at e2; injection e2 with e2; rw [e2]
section
variable {w cur : World} {h dg wg mg q p mq mp : Nat} {Av : Nat → Prop} {X Y : Wnd} {S T : Drv} {k N r : Nat}
theorem wcrash_box (hT : World1 w h Av dg wg mg q p mq mp X S Y T) (hh : h ≤ w.heap.size) (hK : KeptM X S k N r) (hb : Below w.heap.size w cur) (a1 a2 : Option Addr) (nd nc c1 c2 : Nat) (dirs : List Bool) (cuts : List Int)
    (h1 : cur.ownsRow w.heap.size 4 1 (.slice a1 nd c1) nd (dirs.map boolV)) (h2 : cur.ownsRow w.heap.size 3 1 (.slice a2 nc c2) nc (cuts.map intV)) (hnd : nd ≤ 140737488351232) (hnc : nc ≤ 140737488351232) :
    Calls Tryz.prog 13 #[.pointer (some ⟨p, 0, none⟩), .agg #[.slice a1 nd c1, .slice a2 nc c2]] cur fun e w' => e = .returned (.int .i64 0) ∧ World1 w' h Av dg wg mg q p mq mp X (S.crash dirs cuts) Y T ∧ Touch (fr h Av) w w' := by
  refine (wcrash1 (hT.boxed hb) (Nat.le_trans hh hb.size) hK a1 nd c1 dirs a2 nc c2 cuts (Reads.of_own h1) (Reads.of_own h2) (own_spot h1) (own_spot h2) hnd hnc).mono ?_
  rintro e w' ⟨he, h3, h4⟩
  have := World1.end_ h3 h4 hb (fun k hk => .inl hk) hT.avd
  exact ⟨he, this.1, this.2⟩
theorem dcrash1 (hT : World1 w h Av dg wg mg q p mq mp X S Y T) (hh : h ≤ w.heap.size) (hK : KeptM Y T k N r) (pr : Option Addr) (nd cr : Nat) (dirs : List Bool) (pc : Option Addr) (nc cc : Nat) (cuts : List Int) (hft : FateIn w pr nd dirs pc nc cuts) :
    Calls Tryz.prog 96 #[.pointer (some ⟨mq, 0, none⟩), .agg #[.slice pr nd cr, .slice pc nc cc]] w fun e w' => e = .returned (.tuple #[]) ∧ World1 w' h Av dg wg mg q p mq mp X S Y (T.crash dirs cuts) ∧ Touch (fr h Av) w w' :=
  hT.dsk1 hh fun F hd _ _ => dcrash_any mq mp Y T F pr nd cr dirs pc nc cc cuts w hd hK.k.drv hK.refs hft
theorem FateIn.touch {w V : World} {F : Nat → Prop} {pr : Option Addr} {nd : Nat} {dirs : List Bool} {pc : Option Addr} {nc : Nat} {cuts : List Int} (hf : FateIn w pr nd dirs pc nc cuts) (ht : Touch F w V) (h1 : ∀ ad, pr = some ad → 0 < nd → ¬F ad.block) (h2 : ∀ ad, pc = some ad → 0 < nc → ¬F ad.block) : FateIn V pr nd dirs pc nc cuts :=
  ⟨(hf.r.touch0 ht (Nat.le_refl _) h1).more ht.size, (hf.c.touch0 ht (Nat.le_refl _) h2).more ht.size, hf.rs, hf.cs, hf.nr, hf.ncl⟩
end
/-- Where the fate of an act lies: the first of its fates, or none. -/
def FateLow (w : World) (h : Nat) (Av : Nat → Prop) (fa : Option Addr) (fn fc : Nat) (pr : Option Addr) (nd cr : Nat) (dirs : List Bool) (pc : Option Addr) (nc cc : Nat) (cuts : List Int) : Prop :=
  FateIn w pr nd dirs pc nc cuts ∧ (∀ ad, pr = some ad → 0 < nd → ad.block < h ∨ Av ad.block) ∧ (∀ ad, pc = some ad → 0 < nc → ad.block < h ∨ Av ad.block) ∧ fn ≤ fc ∧
    ((fn = 0 ∧ pr = none ∧ nd = 0 ∧ cr = 0 ∧ pc = none ∧ nc = 0 ∧ cc = 0) ∨
      ∃ g o, fa = some ⟨g, o, none⟩ ∧ 0 < fn ∧ g < w.heap.size ∧ w.cell? ⟨g, o, none⟩ = some (.slice pr nd cr) ∧ w.cell? ⟨g, o + 1, none⟩ = some (.slice pc nc cc))

end Go.Proofs.YtdmcjomcbhdcbaaGreat
namespace Go.Proofs.YtdmcjomcbhdcbaaGreat
open Go.RowKit Go.Maps

theorem FateLow.below {w V : World} {h : Nat} {Av : Nat → Prop} {fa : Option Addr} {fn fc : Nat} {pr : Option Addr} {nd cr : Nat} {dirs : List Bool} {pc : Option Addr} {nc cc : Nat} {cuts : List Int} (hf : FateLow w h Av fa fn fc pr nd cr dirs pc nc cc cuts) (hb : Below w.heap.size w V) (G : Nat → Prop) : FateLow V h (fun k => Av k ∨ G k) fa fn fc pr nd cr dirs pc nc cc cuts := by
  obtain ⟨h1, h2, h3, h4, h5⟩ := hf
  refine ⟨h1.keep hb, fun ad e h0 => ?_, fun ad e h0 => ?_, h4, ?_⟩
  · rcases h2 ad e h0 with h | h
    · exact .inl h
    · exact .inr (.inl h)
  · rcases h3 ad e h0 with h | h
    · exact .inl h
    · exact .inr (.inl h)
  · rcases h5 with h5 | ⟨g, o, e1, e2, e3, e4, e5⟩
    · exact .inl h5
    · exact .inr ⟨g, o, e1, e2, Nat.lt_of_lt_of_le e3 hb.size, (hb.cell (p := ⟨g, o, none⟩) e3).trans e4, (hb.cell (p := ⟨g, o + 1, none⟩) e3).trans e5⟩
end Go.Proofs.YtdmcjomcbhdcbaaGreat

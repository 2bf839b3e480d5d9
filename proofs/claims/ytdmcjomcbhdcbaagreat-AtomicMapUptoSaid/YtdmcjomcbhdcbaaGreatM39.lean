/- Both.Same over no drive; a list of steps, as it is handed in.; AtomicScripts, walked: over a place with a drive.; AtomicScripts, walked: over a place without a drive. -/
import Derived.Test.YtdmcjomcbhdcbaaGreatM38
set_option linter.unusedVariables false
namespace Go.Proofs.YtdmcjomcbhdcbaaGreat
open Go.RowKit Go.Maps

/-- Steps, as they are handed in: below h. -/
structure StepsIn (w : World) (h : Nat) (A : Option Addr) (xs : List (PStp × SLay)) : Prop where
  at_ : ∀ j xl, xs[j]? = some xl → ∃ g o, A = some ⟨g, o, none⟩ ∧ g < h ∧ ∀ i u, (stepCells xl.1 xl.2)[i]? = some u → w.cell? ⟨g, o + j * 13 + i, none⟩ = some u
  step : ∀ xl ∈ xs, StepIn w h (fun _ => False) xl.1 xl.2
  act : ∀ xl ∈ xs, ActIn w h (fun _ => False) { xl.1.act with place := 0 } xl.2.al
  fa : ∀ xl ∈ xs, ∀ ad, xl.2.al.fa = some ad → 0 < xl.2.al.fn → ad.block < h
theorem FateLow.touch {w V : World} {h h' : Nat} {Av : Nat → Prop} {fa : Option Addr} {fn fc : Nat} {pr : Option Addr} {nd cr : Nat} {dirs : List Bool} {pc : Option Addr} {nc cc : Nat} {cuts : List Int} (hf : FateLow w h (fun _ => False) fa fn fc pr nd cr dirs pc nc cc cuts) (hfl : ∀ ad, fa = some ad → 0 < fn → ad.block < h) (hb : Below h w V) (hh : h ≤ h') (hw : h ≤ w.heap.size) : FateLow V h' Av fa fn fc pr nd cr dirs pc nc cc cuts := by
  obtain ⟨h1, h2, h3, h4, h5⟩ := hf
  have hl : ∀ {A : Option Addr} {n : Nat}, (∀ ad, A = some ad → 0 < n → ad.block < h ∨ False) → ∀ ad, A = some ad → 0 < n → ad.block < h := fun hA ad e h0 => (hA ad e h0).resolve_right id
  have ht : Touch (fun k => h ≤ k) w V := ⟨hb.os, hb.tape, hb.output, hb.size, fun k _ hn => hb.block k (by omega)⟩
  refine ⟨h1.touch ht (fun ad e h0 => by have := hl h2 ad e h0; omega) (fun ad e h0 => by have := hl h3 ad e h0; omega), fun ad e h0 => .inl (Nat.lt_of_lt_of_le (hl h2 ad e h0) hh), fun ad e h0 => .inl (Nat.lt_of_lt_of_le (hl h3 ad e h0) hh), h4, ?_⟩
  rcases h5 with h5 | ⟨g, o, e1, e2, e3, e4, e5⟩
  · exact .inl h5
  · have hg : g < h := hfl _ e1 e2
    exact .inr ⟨g, o, e1, e2, Nat.lt_of_lt_of_le e3 hb.size, (World.cell?_of_block (hb.block g hg)).trans e4, (World.cell?_of_block (hb.block g hg)).trans e5⟩
theorem far_touch {w V : World} {h : Nat} (hb : Below h w V) : Touch (fun k => h ≤ k) w V := ⟨hb.os, hb.tape, hb.output, hb.size, fun k _ hn => hb.block k (by omega)⟩
theorem low_of {h n : Nat} {A : Option Addr} (hA : ∀ ad, A = some ad → 0 < n → ad.block < h ∨ False) : ∀ ad, A = some ad → 0 < n → ad.block < h := fun ad e h0 => (hA ad e h0).resolve_right id
theorem StepIn.far {w V : World} {h h' : Nat} {Av : Nat → Prop} {x : PStp} {L : SLay} (hi : StepIn w h (fun _ => False) x L) (hb : Below h w V) (hh : h ≤ h') : StepIn V h' Av x L where
  nm := hi.nm
  r := (hi.r.touch0 (far_touch hb) (Nat.le_refl _) fun ad e h0 => by have := (hi.a ad e h0).resolve_right id; omega).more hb.size
  a := fun ad e h0 => .inl (Nat.lt_of_lt_of_le ((hi.a ad e h0).resolve_right id) hh)
  al := fun ad e h0 => Nat.lt_of_lt_of_le (hi.al ad e h0) hb.size
  n := hi.n
  c := hi.c
theorem ActIn.far {w V : World} {h h' : Nat} {Av : Nat → Prop} {x : PAct} {L : ALay} (hi : ActIn w h (fun _ => False) x L) (hfa : ∀ ad, L.fa = some ad → 0 < L.fn → ad.block < h) (hb : Below h w V) (hh : h ≤ h') (hw : h ≤ w.heap.size) : ActIn V h' Av x L where
  pr := (hi.pr.touch0 (far_touch hb) (Nat.le_refl _) fun ad e h0 => by have := low_of hi.pa ad e h0; omega).more hb.size
  pa := fun ad e h0 => .inl (Nat.lt_of_lt_of_le (low_of hi.pa ad e h0) hh)
  pn := hi.pn
  dr := (hi.dr.touch0 (far_touch hb) (Nat.le_refl _) fun ad e h0 => by have := low_of hi.da ad e h0; omega).more hb.size
  da := fun ad e h0 => .inl (Nat.lt_of_lt_of_le (low_of hi.da ad e h0) hh)
  dn := hi.dn
  dc := hi.dc
  rr := hi.rr
  ft := by
    obtain ⟨pr, nd, cr, dirs, pcu, nc, cc, cuts, h1, h2⟩ := hi.ft
    exact ⟨pr, nd, cr, dirs, pcu, nc, cc, cuts, h1.touch hfa hb hh hw, h2⟩
end Go.Proofs.YtdmcjomcbhdcbaaGreat
namespace Go.Proofs.YtdmcjomcbhdcbaaGreat
open Go.RowKit Go.Maps

end Go.Proofs.YtdmcjomcbhdcbaaGreat
namespace Go.Proofs.YtdmcjomcbhdcbaaGreat
open Go.RowKit Go.Maps

end Go.Proofs.YtdmcjomcbhdcbaaGreat

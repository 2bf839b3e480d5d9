/- Steps of a script as they stand in memory, and what a step does to the pure drive. -/
import Derived.Test.YtdmcjomcbhdcbaaLd
import Derived.Test.YtdmcjomcbhdcbaaDo
namespace Go.Proofs.Ytdmcjomcbhdcbaa
open Go.RowKit Go.Maps

structure PStep where
  kind : Int
  name : ByteArray
  to : ByteArray
  data : List UInt8
  a : Int
  b : Int
  c : Int
  yes : Bool
  plan : List (Int × Int)
  dirs : List Bool
  cuts : List Int

abbrev PStep.nm (x : PStep) : Nm := x.name.data.toList
abbrev PStep.tn (x : PStep) : Nm := x.to.data.toList

/-- Where a step's slices lie. -/
structure SLay where
  pd : Option Addr
  cd : Nat
  pp : Option Addr
  cp : Nat
  pr : Option Addr
  cr : Nat
  pc : Option Addr
  cc : Nat

def stepCells (x : PStep) (L : SLay) : Array Value :=
  #[.int .i64 x.kind, .string x.name, .string x.to, .slice L.pd x.data.length L.cd, .int .i64 x.a, .int .i64 x.b, .int .i64 x.c, .bool x.yes, .slice L.pp x.plan.length L.cp, .slice L.pr x.dirs.length L.cr, .slice L.pc x.cuts.length L.cc]

/-- A step's bounds. -/
structure PStep.Fits (x : PStep) : Prop where
  name : x.name.size ≤ maxLen
  to : x.to.size ≤ maxLen
  data : x.data.length ≤ 140737488351232
  plan : x.plan.length * 16 ≤ 140737488351232
  dirs : x.dirs.length ≤ 140737488351232
  cuts : x.cuts.length * 8 ≤ 140737488351232
  wa : (Lit.int .i64 x.a).wf = true
  wb : (Lit.int .i64 x.b).wf = true
  wc : (Lit.int .i64 x.c).wf = true

structure StepAt (w : World) (B : Nat) (L : SLay) (x : PStep) : Prop where
  data : Reads w B 1 L.pd x.data.length (x.data.map B8)
  plan : Reads w B 2 L.pp x.plan.length (planCells x.plan)
  dirs : Reads w B 1 L.pr x.dirs.length (x.dirs.map boolV)
  cuts : Reads w B 1 L.pc x.cuts.length (x.cuts.map intV)
  cd : x.data.length ≤ L.cd
  cp : x.plan.length ≤ L.cp
  cr : x.dirs.length ≤ L.cr
  cc : x.cuts.length ≤ L.cc

theorem Reads.far {w w' : World} {B size n : Nat} {A : Option Addr} {xs : List Value} (h : Reads w B size A n xs) (hk : ∀ k, k < B → w'.heap[k]? = w.heap[k]?) : Reads w' B size A n xs :=
  h.keep fun p hp => World.cell?_of_block (hk p.block hp)
theorem StepAt.far {w w' : World} {B : Nat} {L : SLay} {x : PStep} (h : StepAt w B L x) (hk : ∀ k, k < B → w'.heap[k]? = w.heap[k]?) : StepAt w' B L x :=
  { h with data := h.data.far hk, plan := h.plan.far hk, dirs := h.dirs.far hk, cuts := h.cuts.far hk }
theorem StepAt.touch {w w' : World} {B : Nat} {L : SLay} {x : PStep} {F : Nat → Prop} (h : StepAt w B L x) (ht : Touch F w w') (hB : B ≤ w.heap.size) (hF : ∀ k, F k → B ≤ k) : StepAt w' B L x :=
  h.far fun k hk => ht.block k (by omega) fun hf => by have := hF k hf; omega

def Said.code (e : Int) : Said := { Said.none_ with e := e }

/-- The eight calls, on a plain drive. -/
def plain8 (S : Drv) (x : PStep) : Drv × Said :=
  if x.kind = 1 then ((S.create x.nm).1, .code (S.create x.nm).2)
  else if x.kind = 2 then ((S.append x.nm x.data).1, .code (S.append x.nm x.data).2)
  else if x.kind = 3 then ((S.sync x.nm).1, .code (S.sync x.nm).2)
  else if x.kind = 4 then ((S.rename x.nm x.tn).1, .code (S.rename x.nm x.tn).2)
  else if x.kind = 5 then ((S.remove x.nm).1, .code (S.remove x.nm).2)
  else if x.kind = 6 then (S.syncDir, .code 0)
  else if x.kind = 7 then (S, { Said.none_ with data := (S.read x.nm).1, e := (S.read x.nm).2 })
  else if x.kind = 8 then (S, { Said.none_ with names := dnames S.now, e := 0 })
  else (S, .none_)

theorem plain8_inv {S : Drv} {N : Nat} (h : S.Inv N) (x : PStep) (hr : (N + 1) * S.room ≤ 1152921504606846976) : (plain8 S x).1.Inv (N + 1) := by
  unfold plain8
  split
  · exact Drv.create_inv h _ hr
  · split
    · exact Drv.append_inv h _ _ hr
    · split
      · exact Drv.sync_inv h _ hr
      · split
        · exact Drv.rename_inv h _ _ hr
        · split
          · exact Drv.remove_inv h _ hr
          · split
            · exact Drv.syncDir_inv h hr
            · split
              · exact h.mono (by omega) hr
              · split
                · exact h.mono (by omega) hr
                · exact h.mono (by omega) hr

theorem change_room (S : Drv) (c : List Stp) : (S.change c).room = S.room := (Drv.chAll_bodies S c).2.1
theorem plain8_room (S : Drv) (x : PStep) : (plain8 S x).1.room = S.room := by
  unfold plain8 Drv.create Drv.append Drv.sync Drv.rename Drv.remove Drv.syncDir Drv.setBody
  repeat' (first | rfl | exact change_room _ _ | split)

theorem Touch.draw {G : Nat → Prop} {a b : World} (h : Touch G a b) (n : Nat) : Touch G a (b.drewN n) := ⟨h.os, h.tape, h.output, h.size, h.block⟩
theorem Touch.more {G : Nat → Prop} {a b : World} (h : Touch G a b) (o : Obj) : Touch G a (b.alloc o) :=
  ⟨h.os, h.tape, h.output, by have := h.size; rw [alloc_size]; omega, fun k hk hn => (Below.heap_alloc b o k (Nat.lt_of_lt_of_le hk h.size)).trans (h.block k hk hn)⟩

/-- The frame of a law's helper: three blocks of its own, a call on the drive, its own blocks written. -/
theorem frame_dr {w W w2 X : World} {p : Nat} {S : Drv} {F G : Nat → Prop} (hW : Below w.heap.size w W) (hd : Dr w2 p S (grow F W w2)) (ht : Touch F W w2) (hX : Touch G w2 X) (hsz : X.heap.size = w2.heap.size)
    (hF : ∀ k, F k → k < w.heap.size) (hG : ∀ k, G k → w.heap.size ≤ k ∧ k < W.heap.size) : Dr X p S (grow F w X) ∧ Touch F w X := by
  refine ⟨(hd.keep hX fun k hk hg => ?_).mono fun k hk => ?_, ?_⟩
  · have := hG k hg
    rcases hk with hk | hk
    · have := hF k hk; omega
    · omega
  · rcases hk with hk | hk
    · exact .inl hk
    · refine .inr ⟨by have := hW.size; omega, by rw [hsz]; exact hk.2⟩
  · refine ⟨hX.os.trans (ht.os.trans hW.os), hX.tape.trans (ht.tape.trans hW.tape), hX.output.trans (ht.output.trans hW.output), by have := hX.size; have := ht.size; have := hW.size; omega, fun k hk hn => ?_⟩
    have h1 := hW.size
    have h2 := ht.size
    exact (hX.block k (by omega) fun hg => by have := hG k hg; omega).trans ((ht.block k (by omega) hn).trans (hW.block k hk))

theorem dr_lt {w : World} {p : Nat} {S : Drv} {F : Nat → Prop} (h : Dr w p S F) : Dr w p S fun k => F k ∧ k < w.heap.size := by
  obtain ⟨addr, L, e, hD, hF⟩ := h
  exact ⟨addr, L, e, hD, fun k hk => ⟨hF k hk, hD.foot_lt hk⟩⟩

def stepKind (k : Int) : Int := (k.tmod 8 + 7) % 8 + 1
def PStep.call (x : PStep) : PStep := { x with kind := stepKind x.kind }
theorem PStep.Fits.call {x : PStep} (h : x.Fits) : x.call.Fits := ⟨h.name, h.to, h.data, h.plan, h.dirs, h.cuts, h.wa, h.wb, h.wc⟩
theorem stepKind_bd (k : Int) : 1 ≤ stepKind k ∧ stepKind k ≤ 8 := by
  unfold stepKind
  omega

/-- A step, of any kind's number one of the eight calls. -/
theorem call_any (x : PStep) (L : SLay) (w : World) :
    Calls Try.prog 40 #[.agg (stepCells x L)] w fun e w' => e = .returned (.agg (stepCells x.call L)) ∧ Below w.heap.size w w' := by
  have h1 := Int.tmod_lt_of_pos x.kind (show (0 : Int) < 8 by omega)
  have h2 : -8 < x.kind.tmod 8 := by
    have := Int.tmod_lt_of_pos (-x.kind) (show (0 : Int) < 8 by omega)
    rw [Int.neg_tmod] at this; omega
  have h3 := Int.tmod_lt_of_pos (x.kind.tmod 8 + 7) (show (0 : Int) < 8 by omega)
  have h4 := Int.tmod_nonneg 8 (show 0 ≤ x.kind.tmod 8 + 7 by omega)
  unfold stepCells
  go_enter Try.func40, Try.ntmps40
  go_wp2
  exact bodyPost_ret (v := .agg (stepCells x.call L)) (by simp only [results, Try.results40]; go_simp; rfl) rfl ⟨rfl, ((Below.refl _ _).alloc (Nat.le_refl _) _).alloc (by simp) _⟩
end Go.Proofs.Ytdmcjomcbhdcbaa

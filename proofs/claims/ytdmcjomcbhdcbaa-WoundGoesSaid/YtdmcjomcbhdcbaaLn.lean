/- The law's helper 'plain', at every kind. -/
import Derived.Test.YtdmcjomcbhdcbaaLm
namespace Go.Proofs.Ytdmcjomcbhdcbaa
open Go.RowKit Go.Maps

def plain25 (S : Drv) (x : PStep) : Drv × Said :=
  if x.kind = 17 then (S, { Said.none_ with n := S.used })
  else if x.kind = 18 then (S, { Said.none_ with n := (S.pending.length : Int) })
  else if x.kind = 19 then (S, { Said.none_ with n := (S.loose x.nm).1, e := (S.loose x.nm).2 })
  else if x.kind = 20 then (S.crash x.dirs x.cuts, .code 0)
  else if x.kind = 21 then (S, { Said.none_ with files := S.image })
  else if x.kind = 22 then (S, { Said.none_ with files := S.safes })
  else if x.kind = 23 then ((S.flip x.nm x.a x.data).1, .code (S.flip x.nm x.a x.data).2)
  else if x.kind = 24 then ((S.cut x.nm x.a).1, .code (S.cut x.nm x.a).2)
  else if x.kind = 25 then (Drv.new S.room, .code 0)
  else plain8 S x

theorem plain25_used {S : Drv} {x : PStep} (h : x.kind = 17) : plain25 S x = (S, { Said.none_ with n := S.used }) := by unfold plain25; simp only [h]; rfl
theorem plain25_pending {S : Drv} {x : PStep} (h : x.kind = 18) : plain25 S x = (S, { Said.none_ with n := (S.pending.length : Int) }) := by unfold plain25; simp only [h]; rfl
theorem plain25_loose {S : Drv} {x : PStep} (h : x.kind = 19) : plain25 S x = (S, { Said.none_ with n := (S.loose x.nm).1, e := (S.loose x.nm).2 }) := by unfold plain25; simp only [h]; rfl
theorem plain25_crash {S : Drv} {x : PStep} (h : x.kind = 20) : plain25 S x = (S.crash x.dirs x.cuts, .code 0) := by unfold plain25; simp only [h]; rfl
theorem plain25_image {S : Drv} {x : PStep} (h : x.kind = 21) : plain25 S x = (S, { Said.none_ with files := S.image }) := by unfold plain25; simp only [h]; rfl
theorem plain25_safe {S : Drv} {x : PStep} (h : x.kind = 22) : plain25 S x = (S, { Said.none_ with files := S.safes }) := by unfold plain25; simp only [h]; rfl
theorem plain25_flip {S : Drv} {x : PStep} (h : x.kind = 23) : plain25 S x = ((S.flip x.nm x.a x.data).1, .code (S.flip x.nm x.a x.data).2) := by unfold plain25; simp only [h]; rfl
theorem plain25_cut {S : Drv} {x : PStep} (h : x.kind = 24) : plain25 S x = ((S.cut x.nm x.a).1, .code (S.cut x.nm x.a).2) := by unfold plain25; simp only [h]; rfl
theorem plain25_wipe {S : Drv} {x : PStep} (h : x.kind = 25) : plain25 S x = (Drv.new S.room, .code 0) := by unfold plain25; simp only [h]; rfl
theorem plain25_call {S : Drv} {x : PStep} (h : ¬(17 ≤ x.kind ∧ x.kind ≤ 25)) : plain25 S x = plain8 S x := by
  unfold plain25
  rw [if_neg (by omega)]
  rw [if_neg (by omega)]
  rw [if_neg (by omega)]
  rw [if_neg (by omega)]
  rw [if_neg (by omega)]
  rw [if_neg (by omega)]
  rw [if_neg (by omega)]
  rw [if_neg (by omega)]
  rw [if_neg (by omega)]
theorem plain8_none {S : Drv} {x : PStep} (h : ¬(1 ≤ x.kind ∧ x.kind ≤ 8)) : plain8 S x = (S, .none_) := by
  unfold plain8
  rw [if_neg (by omega)]
  rw [if_neg (by omega)]
  rw [if_neg (by omega)]
  rw [if_neg (by omega)]
  rw [if_neg (by omega)]
  rw [if_neg (by omega)]
  rw [if_neg (by omega)]
  rw [if_neg (by omega)]

theorem plain25_any (p : Nat) (S : Drv) (N : Nat) (F : Nat → Prop) (x : PStep) (L : SLay) (w : World) (B : Nat) (hx : x.Fits) (hd : Dr w p S F) (hF : ∀ k, F k → k < w.heap.size) (hI : S.Inv N) (hN : N ≤ 2199023254000) (hB : B ≤ w.heap.size) (hxa : StepAt w B L x) :
    Calls Try.prog 41 #[.pointer (some ⟨p, 0, none⟩), .agg (stepCells x L)] w fun e w' =>
      ∃ u, e = .returned u ∧ SaidAt w' w.heap.size u (plain25 S x).2 ∧ Dr w' p (plain25 S x).1 (grow F w w') ∧ Touch F w w' := by
  have hS := hI.small hN
  by_cases h : 17 ≤ x.kind ∧ x.kind ≤ 25
  · rcases (show x.kind = 17 ∨ x.kind = 18 ∨ x.kind = 19 ∨ x.kind = 20 ∨ x.kind = 21 ∨ x.kind = 22 ∨ x.kind = 23 ∨ x.kind = 24 ∨ x.kind = 25 by omega) with h | h | h | h | h | h | h | h | h
    · rw [plain25_used h]; exact plain_used p S F x L w h hx hd hF hS
    · rw [plain25_pending h]; exact plain_pending p S F x L w h hx hd hF hS
    · rw [plain25_loose h]; exact plain_loose p S F x L w h hx hd hF hS
    · rw [plain25_crash h]; exact plain_crash p S F x L w h hx hd hF hS B hB hxa N hI hN
    · rw [plain25_image h]; exact plain_image p S F x L w h hx hd hF hS N hI
    · rw [plain25_safe h]; exact plain_safe p S F x L w h hx hd hF hS N hI
    · rw [plain25_flip h]; exact plain_flip p S F x L w h hx hd hF hS B hB hxa
    · rw [plain25_cut h]; exact plain_cut p S F x L w h hx hd hF hS
    · rw [plain25_wipe h]; exact plain_wipe p S F x L w h hx hd hF hS
  · rw [plain25_call h]
    by_cases h8 : 1 ≤ x.kind ∧ x.kind ≤ 8
    · exact plain8_any p S F x L w B h8 hx hd hF hS hB hxa
    · rw [plain8_none h8]; exact plain_other p S F x L w h8 h hx hd hF hS

theorem plain25_inv {S : Drv} {N : Nat} (h : S.Inv N) (x : PStep) (hr : (N + 1) * S.room ≤ 1152921504606846976) : (plain25 S x).1.Inv (N + 1) := by
  have up : ∀ {T : Drv}, T.Inv N → T.room = S.room → T.Inv (N + 1) := fun h1 e => h1.mono (by omega) (by rw [e]; exact hr)
  by_cases hk : 17 ≤ x.kind ∧ x.kind ≤ 25
  · rcases (show x.kind = 17 ∨ x.kind = 18 ∨ x.kind = 19 ∨ x.kind = 20 ∨ x.kind = 21 ∨ x.kind = 22 ∨ x.kind = 23 ∨ x.kind = 24 ∨ x.kind = 25 by omega) with h1 | h1 | h1 | h1 | h1 | h1 | h1 | h1 | h1
    · rw [plain25_used h1]; exact up h rfl
    · rw [plain25_pending h1]; exact up h rfl
    · rw [plain25_loose h1]; exact up h rfl
    · rw [plain25_crash h1]; exact up (Drv.crash_inv h _ _) rfl
    · rw [plain25_image h1]; exact up h rfl
    · rw [plain25_safe h1]; exact up h rfl
    · rw [plain25_flip h1]; exact up (Drv.flip_inv h _ _ _) (Drv.flip_room _ _ _ _)
    · rw [plain25_cut h1]; exact up (Drv.cut_inv h _ _) (Drv.cut_room _ _ _)
    · rw [plain25_wipe h1]; exact Drv.new_inv _ _ h.room hr
  · rw [plain25_call hk]; exact plain8_inv h x hr

theorem crash_keeps (S : Drv) (dirs : List Bool) (cuts : List Int) : (S.crash dirs cuts).room = S.room := rfl
theorem new_keeps (r : Nat) : (Drv.new r).room = r := rfl
theorem plain25_room (S : Drv) (x : PStep) : (plain25 S x).1.room = S.room := by
  by_cases hk : 17 ≤ x.kind ∧ x.kind ≤ 25
  · rcases (show x.kind = 17 ∨ x.kind = 18 ∨ x.kind = 19 ∨ x.kind = 20 ∨ x.kind = 21 ∨ x.kind = 22 ∨ x.kind = 23 ∨ x.kind = 24 ∨ x.kind = 25 by omega) with h1 | h1 | h1 | h1 | h1 | h1 | h1 | h1 | h1
    · rw [plain25_used h1]
    · rw [plain25_pending h1]
    · rw [plain25_loose h1]
    · rw [plain25_crash h1]; exact crash_keeps _ _ _
    · rw [plain25_image h1]
    · rw [plain25_safe h1]
    · rw [plain25_flip h1]; exact Drv.flip_room _ _ _ _
    · rw [plain25_cut h1]; exact Drv.cut_room _ _ _
    · rw [plain25_wipe h1]; exact new_keeps _
  · rw [plain25_call hk]; exact plain8_room S x

theorem plain25_names (S : Drv) (x : PStep) (hS : S.Small) : (plain25 S x).2.names.length ≤ 2199023254000 ∧ (plain25 S x).2.files.length ≤ 2199023254000 := by
  by_cases hk : 17 ≤ x.kind ∧ x.kind ≤ 25
  · rcases (show x.kind = 17 ∨ x.kind = 18 ∨ x.kind = 19 ∨ x.kind = 20 ∨ x.kind = 21 ∨ x.kind = 22 ∨ x.kind = 23 ∨ x.kind = 24 ∨ x.kind = 25 by omega) with h1 | h1 | h1 | h1 | h1 | h1 | h1 | h1 | h1
    · rw [plain25_used h1]; exact ⟨Nat.zero_le _, Nat.zero_le _⟩
    · rw [plain25_pending h1]; exact ⟨Nat.zero_le _, Nat.zero_le _⟩
    · rw [plain25_loose h1]; exact ⟨Nat.zero_le _, Nat.zero_le _⟩
    · rw [plain25_crash h1]; exact ⟨Nat.zero_le _, Nat.zero_le _⟩
    · rw [plain25_image h1]; exact ⟨Nat.zero_le _, by show S.image.length ≤ _; unfold Drv.image; rw [List.length_map, dnames_length]; exact hS.now⟩
    · rw [plain25_safe h1]; exact ⟨Nat.zero_le _, by show S.safes.length ≤ _; unfold Drv.safes; rw [List.length_map, dnames_length]; exact hS.kept⟩
    · rw [plain25_flip h1]; exact ⟨Nat.zero_le _, Nat.zero_le _⟩
    · rw [plain25_cut h1]; exact ⟨Nat.zero_le _, Nat.zero_le _⟩
    · rw [plain25_wipe h1]; exact ⟨Nat.zero_le _, Nat.zero_le _⟩
  · rw [plain25_call hk]; exact plain8_names S x hS
end Go.Proofs.Ytdmcjomcbhdcbaa

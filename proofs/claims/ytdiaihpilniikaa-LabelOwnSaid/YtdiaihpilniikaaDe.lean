/- Contracts of the drive: what is asked of it without a change: names, List, Used, Pending, Loose, Read; and bytes.Clone as they use it. -/
import Derived.Test.YtdiaihpilniikaaDa
import Derived.Test.YtdiaihpilniikaaShelf
namespace Go.Proofs.Ytdiaihpilniikaa
open Go.RowKit Go.Maps

theorem B8_ints (bs : List UInt8) : (bs.map fun b => (b.toNat : Int)).map (Value.int .u8) = bs.map B8 := by rw [List.map_map]; rfl

theorem clone_any (A : Option Addr) (n c : Nat) (bs : List UInt8) (w : World) (B : Nat) (hr : Reads w B 1 A n (bs.map B8)) (hbig : n ≤ 140737488355328) :
    Calls Try.prog 46 #[.slice A n c] w fun e w' => ∃ v, e = .returned v ∧ w'.ownsRow w.heap.size 5 1 v n (bs.map B8) ∧ Below w.heap.size w w' := by
  have hlen : bs.length = n := by have := hr.1; simpa using this
  cases A with
  | none =>
    have hn : n = 0 := by
      rcases Nat.eq_zero_or_pos n with h | h
      · exact h
      · obtain ⟨ad, e, _⟩ := hr.2 h; cases e
    subst hn
    have hbs : bs = [] := List.eq_nil_of_length_eq_zero hlen
    subst hbs
    refine (Any.bytes_Clone_nil Try.laysClone 0 c w).mono ?_
    rintro e w' ⟨rfl, rfl⟩
    exact ⟨_, rfl, World.ownsRow_nil _ _ _ _, Below.refl _ _⟩
  | some a =>
    refine (Any.bytes_Clone_at Try.laysClone a n c (bs.map fun b => (b.toNat : Int)) w (by simpa using hlen) hbig (fun i hi => ?_)).mono ?_
    · obtain ⟨ad, e, _, hc⟩ := hr.2 (by omega)
      injection e with e; subst e
      have hib : i < bs.length := by omega
      have := hc i (B8 bs[i]) (by simp [hib])
      rw [this]; simp [B8, List.getD, hib]
    · rintro e w' ⟨v, rfl, ho, _, hb⟩
      exact ⟨v, rfl, by rw [← B8_ints]; exact ho, hb⟩

end Go.Proofs.Ytdiaihpilniikaa

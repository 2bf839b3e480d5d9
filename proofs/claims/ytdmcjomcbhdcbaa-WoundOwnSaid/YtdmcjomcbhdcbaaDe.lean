/- Contracts of the drive: what is asked of it without a change: names, List, Used, Pending, Loose, Read; and bytes.Clone as they use it. -/
import Derived.Test.YtdmcjomcbhdcbaaDa
import Derived.Test.YtdmcjomcbhdcbaaShelf
namespace Go.Proofs.Ytdmcjomcbhdcbaa
open Go.RowKit Go.Maps Go.Sort

/-- The names of a directory, rising. -/
def dnames (D : Dir) : List Nm := (strKeys D).mergeSort leB

theorem leB_total (a b : Nm) : (leB a b || leB b a) = true := by
  simp only [Bool.or_eq_true, decide_eq_true_eq]; exact List.le_total a b
theorem leB_trans (a b c : Nm) (h1 : leB a b = true) (h2 : leB b c = true) : leB a c = true := by
  simp only [decide_eq_true_eq] at *; exact List.le_trans h1 h2
theorem mergeSort_perm_eq {l m : List Nm} (h : l.Perm m) : l.mergeSort leB = m.mergeSort leB :=
  List.Perm.eq_of_pairwise (le := fun a b => leB a b = true) (fun _ _ _ _ h1 h2 => List.le_antisymm (of_decide_eq_true h1) (of_decide_eq_true h2))
    (List.pairwise_mergeSort leB_trans leB_total l) (List.pairwise_mergeSort leB_trans leB_total m)
    ((List.mergeSort_perm l leB).trans (h.trans (List.mergeSort_perm m leB).symm))
theorem encStr_strV : Go.Proofs.encStr = strV := by funext s; simp [Go.Proofs.encStr, strV]

set_option maxHeartbeats 1000000 in
theorem names_any (b : Nat) (D : Dir) (addr : List Nat) (w : World) (hd : DirAt w addr b D) (hsz : size D ≤ 2199023255552) :
    Calls Try.prog 72 #[.map (some b)] w fun e w' => ∃ v, e = .returned v ∧ w'.ownsRow w.heap.size 9 1 v (dnames D).length ((dnames D).map strV) ∧ Below w.heap.size w w' := by
  refine (callsIn_wide (n := 6)).1 ?_
  have hfK : Fence.wide.fn 80 := trivial
  have hfS : Fence.wide.fn 79 := trivial
  have h1 : Maps.size D ≤ maxLen := by unfold maxLen; omega
  have h2 : Maps.size D * 16 ≤ 140737488355328 := by omega
  refine callsIn_of_wp Try.func72 rfl trivial ?_ rfl
  simp only [Try.ntmps72, List.size_toArray, List.length_cons, List.length_nil, Nat.reduceAdd, Nat.reduceSub, Array.replicate_succ, Array.replicate_zero, List.push_toArray, List.append_toArray, List.nil_append, List.cons_append]
  gi_wp2_with (first
    | (gi_at_call 80; refine (Try.maps_Keys_80 _ _).mono ?_; rintro e w' ⟨rfl, rfl⟩)
    | (gi_at_call 79; refine (Try.slices_Sorted_keys_79_80 b (size D) D (elemR addr) w hd h1 h2).mono ?_; rintro e w' ⟨v, ss, rfl, hS, hrow, hnil, hb⟩))
  go_ret
  have hlen : (dnames D).length = ss.length := by rw [dnames, (List.mergeSort_perm _ _).length_eq, hS.length_eq]
  refine ⟨v, rfl, ?_, ((Below.refl _ w).alloc (Nat.le_refl _) _).trans (hb.mono (by simp))⟩
  have hr := ownsRow_base_a (base' := w.heap.size) hrow (by simp)
  rw [encStr_strV, mergeSort_perm_eq hS] at hr
  rw [hlen]; exact hr

theorem B8_ints (bs : List UInt8) : (bs.map fun b => (b.toNat : Int)).map (Value.int .u8) = bs.map B8 := by rw [List.map_map]; rfl

theorem clone_any (A : Option Addr) (n c : Nat) (bs : List UInt8) (w : World) (B : Nat) (hr : Reads w B 1 A n (bs.map B8)) (hbig : n ≤ 140737488355328) :
    Calls Try.prog 73 #[.slice A n c] w fun e w' => ∃ v, e = .returned v ∧ w'.ownsRow w.heap.size 5 1 v n (bs.map B8) ∧ Below w.heap.size w w' := by
  have hlen : bs.length = n := by have := hr.1; simpa using this
  cases A with
  | none =>
    have hn : n = 0 := by
      rcases Nat.eq_zero_or_pos n with h | h
      · exact h
      · obtain ⟨ad, e, _⟩ := hr.2 h; cases e
    subst hn
    have hbs : bs = [] := List.eq_nil_of_length_eq_zero hlen
    subst hbs
    refine (Any.bytes_Clone_nil Try.laysClone 0 c w).mono ?_
    rintro e w' ⟨rfl, rfl⟩
    exact ⟨_, rfl, World.ownsRow_nil _ _ _ _, Below.refl _ _⟩
  | some a =>
    refine (Any.bytes_Clone_at Try.laysClone a n c (bs.map fun b => (b.toNat : Int)) w (by simpa using hlen) hbig (fun i hi => ?_)).mono ?_
    · obtain ⟨ad, e, _, hc⟩ := hr.2 (by omega)
      injection e with e; subst e
      have hib : i < bs.length := by omega
      have := hc i (B8 bs[i]) (by simp [hib])
      rw [this]; simp [B8, List.getD, hib]
    · rintro e w' ⟨v, rfl, ho, _, hb⟩
      exact ⟨v, rfl, by rw [← B8_ints]; exact ho, hb⟩

theorem used_nil (w : World) : Calls Try.prog 34 #[.pointer none] w fun e w' => e = .returned (.int .i64 0) ∧ w = w' := by
  go_enter Try.func34, Try.ntmps34
  go_wp2
  go_ret
  exact ⟨rfl, rfl⟩

theorem used_any (p : Nat) (S : Drv) (addr : List Nat) (F : Nat → Prop) (w : World) (hd : DrA w p S addr F) :
    Calls Try.prog 34 #[.pointer (some ⟨p, 0, none⟩)] w fun e w' => e = .returned (.int .i64 S.used) ∧ w = w' := by
  obtain ⟨L, rfl, hD, _⟩ := hd
  have h1 : w.cell? ⟨p, 1, none⟩ = some (.int .i64 S.used) := hD.head.cell 1
  clear hD
  go_enter Try.func34, Try.ntmps34
  go_wp2
  go_ret
  exact ⟨rfl, rfl⟩

theorem pending_any (p : Nat) (S : Drv) (addr : List Nat) (F : Nat → Prop) (w : World) (hd : DrA w p S addr F) :
    Calls Try.prog 48 #[.pointer (some ⟨p, 0, none⟩)] w fun e w' => e = .returned (.int .i64 S.pending.length) ∧ w = w' := by
  obtain ⟨L, rfl, hD, _⟩ := hd
  obtain ⟨a, c, hv, _⟩ := own_shape hD.pend
  have h1 : w.cell? ⟨p, 4, none⟩ = some (.slice a S.pending.length c) := by have := hD.head.cell 4; rw [hv] at this; exact this
  clear hD hv
  go_enter Try.func48, Try.ntmps48
  go_wp2
  go_ret
  exact ⟨rfl, rfl⟩

theorem list_any (p : Nat) (S : Drv) (addr : List Nat) (F : Nat → Prop) (w : World) (hd : DrA w p S addr F) (hsz : size S.now ≤ 2199023255552) :
    Calls Try.prog 45 #[.pointer (some ⟨p, 0, none⟩)] w fun e w' =>
      ∃ v, e = .returned (.tuple #[v, .int .i64 0]) ∧ w'.ownsRow w.heap.size 9 1 v (dnames S.now).length ((dnames S.now).map strV) ∧ Below w.heap.size w w' := by
  obtain ⟨L, rfl, hD, _⟩ := hd
  have h2 : w.cell? ⟨p, 2, none⟩ = some (.map (some L.nowM)) := hD.head.cell 2
  have HN := Lib.hid hD.now
  have HS := Lib.hid hsz
  clear hD hsz
  go_enter Try.func45, Try.ntmps45
  go_wp2_with fail
  refine (names_any _ _ _ _ HN.out HS.out).mono ?_
  rintro e w' ⟨v, rfl, ho, hb⟩
  have HO := Lib.hid ho
  have HB := Lib.hid hb
  clear ho hb
  go_wp2
  go_ret2
  exact ⟨v, rfl, HO.out, HB.out⟩

theorem list_nil (w : World) : Calls Try.prog 45 #[.pointer none] w fun e w' => e = .returned (.tuple #[.slice none 0 0, .int .i64 1]) ∧ w = w' := by
  go_enter Try.func45, Try.ntmps45
  go_wp2
  go_ret2
  exact ⟨rfl, rfl⟩
end Go.Proofs.Ytdmcjomcbhdcbaa

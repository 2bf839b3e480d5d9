/- A loss of power, of the pure drive. No program in sight. -/
import Derived.Test.YtdmcjomcbhdcbaaPi
namespace Go.Proofs.Ytdmcjomcbhdcbaa
open Go.RowKit Go.Maps Go.Sort

namespace Drv
/-- What is kept of the names, behind the first k pending changes. -/
def crashK (S : Drv) (dirs : List Bool) : Nat → Dir
  | 0 => S.kept
  | k + 1 => if dirs.getD k false = true then applyC (S.crashK dirs k) (S.pending.getD k []) else S.crashK dirs k
/-- How many bytes of the j-th file stay. -/
def cutN (S : Drv) (D : Dir) (cuts : List Int) (j : Nat) : Nat :=
  (S.at_ D ((dnames D).getD j [])).safe + (min (max (cuts.getD j 0) 0) (((S.at_ D ((dnames D).getD j [])).data.length : Int) - (S.at_ D ((dnames D).getD j [])).safe)).toNat
def crashBody (S : Drv) (D : Dir) (cuts : List Int) (j : Nat) : Body := ⟨(S.at_ D ((dnames D).getD j [])).data.take (S.cutN D cuts j), S.cutN D cuts j⟩
def crashDir (D : Dir) : Nat → Dir
  | 0 => .map []
  | k + 1 => (crashDir D k).put (key ((dnames D).getD k [])) (num k)
def crashSum (S : Drv) (D : Dir) (cuts : List Int) : Nat → Nat
  | 0 => 0
  | k + 1 => S.crashSum D cuts k + S.cutN D cuts k
/-- The new drive, behind the first k files. -/
def crashAt (S : Drv) (D : Dir) (cuts : List Int) (k : Nat) : Drv :=
  ⟨S.room, S.crashSum D cuts k, (List.range k).map (S.crashBody D cuts), crashDir D k, crashDir D k, []⟩
def crash (S : Drv) (dirs : List Bool) (cuts : List Int) : Drv := S.crashAt (S.crashK dirs S.pending.length) cuts (dnames (S.crashK dirs S.pending.length)).length
end Drv

theorem dnames_perm (D : Dir) : (dnames D).Perm (strKeys D) := List.mergeSort_perm _ _
theorem mem_dnames {D : Dir} (hk : NmKeys D) (ht : Tidy D) {s : Nm} (h : s ∈ dnames D) : has D (key s) = true := by
  obtain ⟨es, rfl, _⟩ := ht
  rw [(dnames_perm _).mem_iff] at h
  obtain ⟨p, hp, rfl⟩ := List.mem_map.1 h
  obtain ⟨s, hs⟩ := hk p hp
  rw [has_eq, List.any_eq_true]
  exact ⟨p, hp, by rw [hs]; simp [Lit.sameKey, strOf, key]⟩
theorem dnames_nodup {D : Dir} (hk : NmKeys D) (ht : Tidy D) : (dnames D).Nodup := by
  obtain ⟨es, rfl, hp⟩ := ht
  rw [(dnames_perm _).nodup_iff]
  show (es.map fun p => strOf p.1).Nodup
  rw [List.Nodup, List.pairwise_map]
  refine hp.imp_of_mem ?_
  intro a b ha hb hne e
  obtain ⟨s, hs⟩ := hk a ha
  obtain ⟨t, ht⟩ := hk b hb
  rw [hs, ht] at hne e
  have : s = t := e
  exact hne (by rw [this])

theorem crashDir_facts {D : Dir} (hk : NmKeys D) (ht : Tidy D) (hf : Full D) : ∀ k, k ≤ (dnames D).length →
    Tidy (Drv.crashDir D k) ∧ NmKeys (Drv.crashDir D k) ∧ Full (Drv.crashDir D k) ∧ size (Drv.crashDir D k) ≤ k ∧ (∀ s, has (Drv.crashDir D k) (key s) = true → s ∈ (dnames D).take k) ∧ (refs (Drv.crashDir D k)).Nodup ∧ (∀ i ∈ refs (Drv.crashDir D k), i < k) ∧ (refs (Drv.crashDir D k)).Perm (List.range k)
  | 0, _ => ⟨tidy_empty, fun p hp => by (cases hp), fun s h => by (cases h), Nat.le_refl _, fun s h => by (cases h), List.nodup_nil, fun i hi => by (cases hi), .refl _⟩
  | k + 1, hl => by
    obtain ⟨h1, h2, h3, h4, h5, h6, h7, h8⟩ := crashDir_facts hk ht hf k (by omega)
    have hkl : k < (dnames D).length := by omega
    have hg : (dnames D)[k]? = some ((dnames D).getD k []) := by rw [List.getElem?_eq_getElem hkl]; simp [List.getD, hkl]
    have hm : (dnames D).getD k [] ∈ dnames D := List.mem_of_getElem? hg
    have hnd := dnames_nodup hk ht
    have hnot : has (Drv.crashDir D k) (key ((dnames D).getD k [])) = false := by
      cases hh : has (Drv.crashDir D k) (key ((dnames D).getD k [])) with
      | false => rfl
      | true =>
        exfalso
        have := h5 _ hh
        obtain ⟨j, hj, e⟩ := List.getElem_of_mem this
        rw [List.length_take] at hj
        rw [List.getElem_take] at e
        have e2 : (dnames D)[k] = (dnames D).getD k [] := by simp [List.getD, hkl]
        rw [← e2] at e
        exact (List.pairwise_iff_getElem.1 hnd) j k (by omega) hkl (by omega) e
    have hlen := (hf _ (mem_dnames hk ht hm)).1
    have hp := refs_put h1 ((dnames D).getD k []) k
    rw [del_of_not_has hnot] at hp
    have hp2 : (refs (Drv.crashDir D (k + 1))).Perm (List.range (k + 1)) := by
      refine hp.trans ?_
      rw [List.range_succ]
      exact (h8.cons k).trans (List.perm_append_singleton _ _).symm
    refine ⟨h1.put (isKey _) _, h2.put h1 _ _, h3.put h1 hlen k, ?_, ?_, ?_, ?_, hp2⟩
    · have := size_put_le h1 ((dnames D).getD k []) (num k)
      show size ((Drv.crashDir D k).put _ _) ≤ k + 1
      omega
    · intro s hs
      rw [List.take_add_one, hg]
      by_cases e : s = (dnames D).getD k []
      · rw [e]; simp
      · rw [show Drv.crashDir D (k + 1) = (Drv.crashDir D k).put (key ((dnames D).getD k [])) (num k) from rfl, has_put_other (key_ne e)] at hs
        exact List.mem_append_left _ (h5 s hs)
    · exact hp2.nodup_iff.2 List.nodup_range
    · intro i hi
      exact List.mem_range.1 (hp2.mem_iff.1 hi)

theorem crashK_facts {S : Drv} {N : Nat} (h : S.Inv N) (dirs : List Bool) : ∀ k, k ≤ S.pending.length → Full (S.crashK dirs k) ∧ Tidy (S.crashK dirs k) ∧ NmKeys (S.crashK dirs k) ∧ size (S.crashK dirs k) ≤ size S.kept + ((S.pending.take k).map puts).sum
  | 0, _ => ⟨h.fkept, h.tkept, h.kkept, Nat.le_add_right _ _⟩
  | k + 1, hl => by
    obtain ⟨h1, h2, h3, h4⟩ := crashK_facts h dirs k (by omega)
    have hkl : k < S.pending.length := by omega
    have hg : S.pending[k]? = some (S.pending.getD k []) := by rw [List.getElem?_eq_getElem hkl]; simp [List.getD, hkl]
    have hm : S.pending.getD k [] ∈ S.pending := List.mem_of_getElem? hg
    have e : ((S.pending.take (k + 1)).map puts).sum = ((S.pending.take k).map puts).sum + puts (S.pending.getD k []) := by
      rw [List.take_add_one, hg]; simp
    rw [e]
    unfold Drv.crashK
    split
    · obtain ⟨a, b, c⟩ := applyC_keeps (S.pending.getD k []) h1 h2 (h.pok _ hm)
      exact ⟨a, b, h3.app _ h2, by omega⟩
    · exact ⟨h1, h2, h3, by omega⟩

theorem cutN_le {S : Drv} {N : Nat} (h : S.Inv N) (D : Dir) (cuts : List Int) (j : Nat) : S.cutN D cuts j ≤ (S.at_ D ((dnames D).getD j [])).data.length ∧ S.cutN D cuts j ≤ S.room := by
  have h1 := h.safe ((dget D ((dnames D).getD j [])).getD 0)
  have h2 := h.len ((dget D ((dnames D).getD j [])).getD 0)
  unfold Drv.len at h1 h2
  unfold Drv.cutN Drv.at_
  omega

theorem crashSum_eq {S : Drv} {N : Nat} (h : S.Inv N) (D : Dir) (cuts : List Int) (M : Nat) : ∀ k, k ≤ M → ((List.range k).map fun i => (S.crashAt D cuts M).len i).sum = S.crashSum D cuts k
  | 0, _ => rfl
  | k + 1, hl => by
    rw [List.range_succ, List.map_append, List.sum_append, crashSum_eq h D cuts M k (by omega)]
    have e : (S.crashAt D cuts M).len k = S.cutN D cuts k := by
      unfold Drv.len Drv.body Drv.crashAt
      simp only [List.getD, List.getElem?_map, List.getElem?_range (show k < M by omega), Option.map_some, Option.getD_some]
      show (List.take _ _).length = _
      rw [List.length_take]
      have := (cutN_le h D cuts k).1
      omega
    simp [e, Drv.crashSum]

/-- The new drive behind all its files. -/
theorem Drv.crash_inv {S : Drv} {N : Nat} (h : S.Inv N) (dirs : List Bool) (cuts : List Int) : (S.crash dirs cuts).Inv N := by
  obtain ⟨h1, h2, h3, h4⟩ := crashK_facts h dirs S.pending.length (Nat.le_refl _)
  rw [List.take_length] at h4
  unfold Drv.crash
  generalize hD : S.crashK dirs S.pending.length = D at *
  generalize hM : (dnames D).length = M
  have hMN : M ≤ N := by rw [← hM, dnames_length]; have := h.skept; omega
  obtain ⟨f1, f2, f3, f4, f5, f6, f7, f8⟩ := crashDir_facts h3 h2 h1 M (by omega)
  have hlen : ∀ i, (S.crashAt D cuts M).len i ≤ S.room ∧ ((S.crashAt D cuts M).body i).safe ≤ (S.crashAt D cuts M).len i := by
    intro i
    unfold Drv.len Drv.body Drv.crashAt
    by_cases hi : i < M
    · simp only [List.getD, List.getElem?_map, List.getElem?_range hi, Option.map_some, Option.getD_some]
      show (List.take _ _).length ≤ _ ∧ S.cutN D cuts i ≤ (List.take _ _).length
      rw [List.length_take]
      have := cutN_le h D cuts i
      omega
    · simp only [List.getD]
      rw [List.getElem?_eq_none (by simp; omega)]
      exact ⟨Nat.zero_le _, Nat.le_refl _⟩
  exact {
    tnow := f1, tkept := f1, know := f2, kkept := f2, nodup := f6
    rlt := fun i hi => by have := f7 i hi; show i < ((List.range M).map _).length; simp; exact this
    used := by
      have e := (S.crashAt D cuts M).sum_perm f8
      show ((S.crashSum D cuts M : Nat) : Int) = (((S.crashAt D cuts M).sum (refs (Drv.crashDir D M)) : Nat) : Int)
      rw [e, ← crashSum_eq h D cuts M M (Nat.le_refl _)]
      rfl
    len := fun i => (hlen i).1
    safe := fun i => (hlen i).2
    fnow := f3, fkept := f3
    snow := Nat.le_trans f4 hMN
    skept := by show size (Drv.crashDir D M) + ([] : List Nat).sum ≤ N; simp; omega
    pend := Nat.zero_le _
    pok := fun c hc => by cases hc
    room := h.room
    rooms := h.rooms }
end Go.Proofs.Ytdmcjomcbhdcbaa

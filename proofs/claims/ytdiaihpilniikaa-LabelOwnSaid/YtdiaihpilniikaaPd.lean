/- What the sum of layer 6 sees in 31 bytes: one, two or three bits turned, and every odd number of them. -/
import Derived.Test.YtdiaihpilniikaaPc
namespace Go.Proofs.Ytdiaihpilniikaa

/-- What the register keeps of one bit of 31 bytes. -/
def synAt (k : Nat) : Nat := over 0 ((List.replicate 31 (0 : UInt8)).set (k / 8) (UInt8.ofNat (1 <<< (k % 8))))
def parB (r : Nat) : Bool := (List.range 32).foldl (fun b i => b != r.testBit i) false
theorem foldl_bne (f g : Nat → Bool) (l : List Nat) (a b : Bool) : l.foldl (fun b i => b != (f i != g i)) (a != b) = (l.foldl (fun b i => b != f i) a != l.foldl (fun b i => b != g i) b) := by
  induction l generalizing a b with
  | nil => rfl
  | cons x l ih =>
    rw [List.foldl_cons, List.foldl_cons, List.foldl_cons, ← ih]
    congr 1
    cases a <;> cases b <;> cases f x <;> cases g x <;> rfl
theorem parB_xor (a b : Nat) : parB (a ^^^ b) = (parB a != parB b) := by
  unfold parB
  rw [← foldl_bne]
  simp only [Nat.testBit_xor]
  congr 1
theorem parB_zero : parB 0 = false := by decide
def synList : List Nat := (List.range 248).map synAt
def distinctB : List Nat → Bool
  | [] => true
  | x :: l => l.all (fun y => !(x == y)) && distinctB l
theorem distinctB_ne {l : List Nat} (h : distinctB l = true) {i j : Nat} (hij : i < j) (hj : j < l.length) : l[i]! ≠ l[j]! := by
  induction l generalizing i j with
  | nil => simp at hj
  | cons x l ih =>
    unfold distinctB at h
    rw [Bool.and_eq_true] at h
    cases j with
    | zero => omega
    | succ j =>
      cases i with
      | zero =>
        have hj2 : j < l.length := by simpa using hj
        have := List.all_eq_true.1 h.1 l[j] (List.getElem_mem hj2)
        intro e
        have e1 : (x :: l)[0]! = x := rfl
        have e2 : (x :: l)[j + 1]! = l[j] := by simp [hj2]
        rw [e1, e2] at e
        simp [e] at this
      | succ i =>
        have hj2 : j < l.length := by simpa using hj
        have := ih h.2 (i := i) (j := j) (by omega) hj2
        simpa using this
theorem syn_distinct : distinctB synList = true := by decide +kernel
theorem syn_par : synList.all parB = true := by decide +kernel
theorem synList_get {k : Nat} (h : k < 248) : synList[k]! = synAt k := by
  unfold synList
  rw [getElem!_pos _ _ (by simpa using h)]
  simp
theorem synAt_ne {i j : Nat} (hi : i < 248) (hj : j < 248) (h : i ≠ j) : synAt i ≠ synAt j := by
  rcases Nat.lt_or_gt_of_ne h with h | h
  · have := distinctB_ne syn_distinct h (by simpa [synList] using hj)
    rwa [synList_get hi, synList_get hj] at this
  · have := distinctB_ne syn_distinct h (by simpa [synList] using hi)
    rw [synList_get hi, synList_get hj] at this
    exact fun e => this e.symm
theorem parB_syn {k : Nat} (h : k < 248) : parB (synAt k) = true := List.all_eq_true.1 syn_par _ (List.mem_map.2 ⟨k, List.mem_range.2 h, rfl⟩)
/-- What the register keeps of some bits. -/
def synAll (l : List Nat) : Nat := l.foldr (fun k r => synAt k ^^^ r) 0
theorem parB_all (l : List Nat) (h : ∀ k ∈ l, k < 248) : parB (synAll l) = decide (l.length % 2 = 1) := by
  induction l with
  | nil => decide
  | cons k l ih =>
    show parB (synAt k ^^^ synAll l) = _
    rw [parB_xor, parB_syn (h k (.head _)), ih fun j hj => h j (.tail _ hj), List.length_cons]
    rcases Nat.mod_two_eq_zero_or_one l.length with e | e
    · rw [e]; simp; omega
    · rw [e]; simp; omega
/-- Some bits that are turned, up to three of them or an odd number: the register tells. -/
theorem synAll_ne {l : List Nat} (h : ∀ k ∈ l, k < 248) (hd : l.Nodup) (h0 : l ≠ []) (hl : ¬(3 < l.length ∧ l.length % 2 = 0)) : synAll l ≠ 0 := by
  intro e
  by_cases ho : l.length % 2 = 1
  · have := parB_all l h
    rw [e, parB_zero] at this
    simp [ho] at this
  · have h2 : l.length = 2 := by
      have : l.length ≠ 0 := fun e => h0 (List.length_eq_zero_iff.1 e)
      omega
    match l, h2 with
    | [a, b], _ =>
      have h1 : synAt a ^^^ (synAt b ^^^ 0) = 0 := e
      rw [Nat.xor_zero] at h1
      have h3 : synAt a = synAt b := by
        have := congrArg (· ^^^ synAt b) h1
        simpa [Nat.xor_assoc] using this
      refine synAt_ne (h a (by simp)) (h b (by simp)) ?_ h3
      intro e
      simp [e] at hd
end Go.Proofs.Ytdiaihpilniikaa

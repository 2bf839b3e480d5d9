/- The law's helpers fit and twin. -/
import Derived.Test.YtdiaihpilniikaaKt
namespace Go.Proofs.Ytdiaihpilniikaa
open Go.RowKit Go.Maps

set_option maxRecDepth 100000 in
set_option maxHeartbeats 8000000 in
theorem fit_any (l : Lab) (hl : l.Wf) (w : World) : Calls Try.prog 19 #[labV l] w fun e w' => e = .returned (.bool (decide (l.may = 0))) ∧ Below w.heap.size w w' := by
  obtain ⟨a0, a1, a2, a3, a4, a5, a6, a7, hst⟩ := lab_eight hl.st
  have hk := hl.k
  have hm := hl.m
  obtain ⟨st, k, m, b, i, e⟩ := l
  simp only at hst hk hm
  subst hst
  clear hl
  have HF : Hid (Lab.may ⟨[a0, a1, a2, a3, a4, a5, a6, a7], k, m, b, i, e⟩ = 0 → 1 ≤ m ∧ m ≤ k ∧ k + m ≤ 255 ∧ 1 ≤ b ∧ b ≤ 65536 ∧ 0 ≤ i ∧ i < k + m ∧ 0 ≤ e ∧ e ≤ 4294967295) := Lib.hid (may_fits (l := ⟨[a0, a1, a2, a3, a4, a5, a6, a7], k, m, b, i, e⟩))
  have HT : Hid ((1 ≤ m ∧ m ≤ k ∧ k + m ≤ 255 ∧ 1 ≤ b ∧ b ≤ 65536 ∧ 0 ≤ i ∧ i < k + m ∧ 0 ≤ e ∧ e ≤ 4294967295) → Lab.may ⟨[a0, a1, a2, a3, a4, a5, a6, a7], k, m, b, i, e⟩ = 0) := Lib.hid (may_of (l := ⟨[a0, a1, a2, a3, a4, a5, a6, a7], k, m, b, i, e⟩))
  obtain ⟨d, hd⟩ : ∃ d, d = decide (Lab.may ⟨[a0, a1, a2, a3, a4, a5, a6, a7], k, m, b, i, e⟩ = 0) := ⟨_, rfl⟩
  rw [← hd]
  have HD := Lib.hid hd
  clear hd
  unfold labV labCells
  simp only [List.map_cons, List.map_nil, List.cons_append, List.nil_append]
  unfold B8
  by_cases h0 : 1 ≤ m
  · by_cases h1 : m ≤ k
    · by_cases h2 : k ≤ 254
      · by_cases h3 : k + m ≤ 255
        · by_cases h4 : 1 ≤ b
          · by_cases h5 : b ≤ 65536
            · by_cases h6 : 0 ≤ i
              · by_cases h7 : i < k + m
                · by_cases h8 : 0 ≤ e
                  · by_cases h9 : e ≤ 4294967295
                    · have hdv : d = true := by rw [HD.out]; exact decide_eq_true (HT.out (by omega))
                      subst hdv
                      have hv : wrap64 (k + m) = k + m := IntWalk.wrap64_in _ (by omega)
                      clear hk hm HD HF HT
                      go_enter Try.func19, Try.ntmps19
                      go_wp2
                      go_ret
                      exact ⟨rfl, ((Below.refl _ w).alloc (Nat.le_refl _) _).alloc (by simp) _⟩
                    · have hdv : d = false := by rw [HD.out]; exact decide_eq_false fun h => by have := HF.out h; omega
                      subst hdv
                      have hv : wrap64 (k + m) = k + m := IntWalk.wrap64_in _ (by omega)
                      clear hk hm HD HF HT
                      go_enter Try.func19, Try.ntmps19
                      go_wp2
                      go_ret
                      exact ⟨rfl, ((Below.refl _ w).alloc (Nat.le_refl _) _).alloc (by simp) _⟩
                  · have hdv : d = false := by rw [HD.out]; exact decide_eq_false fun h => by have := HF.out h; omega
                    subst hdv
                    have hv : wrap64 (k + m) = k + m := IntWalk.wrap64_in _ (by omega)
                    clear hk hm HD HF HT
                    go_enter Try.func19, Try.ntmps19
                    go_wp2
                    go_ret
                    exact ⟨rfl, ((Below.refl _ w).alloc (Nat.le_refl _) _).alloc (by simp) _⟩
                · have hdv : d = false := by rw [HD.out]; exact decide_eq_false fun h => by have := HF.out h; omega
                  subst hdv
                  have hv : wrap64 (k + m) = k + m := IntWalk.wrap64_in _ (by omega)
                  clear hk hm HD HF HT
                  go_enter Try.func19, Try.ntmps19
                  go_wp2
                  go_ret
                  exact ⟨rfl, ((Below.refl _ w).alloc (Nat.le_refl _) _).alloc (by simp) _⟩
              · have hdv : d = false := by rw [HD.out]; exact decide_eq_false fun h => by have := HF.out h; omega
                subst hdv
                have hv : wrap64 (k + m) = k + m := IntWalk.wrap64_in _ (by omega)
                clear hk hm HD HF HT
                go_enter Try.func19, Try.ntmps19
                go_wp2
                go_ret
                exact ⟨rfl, ((Below.refl _ w).alloc (Nat.le_refl _) _).alloc (by simp) _⟩
            · have hdv : d = false := by rw [HD.out]; exact decide_eq_false fun h => by have := HF.out h; omega
              subst hdv
              have hv : wrap64 (k + m) = k + m := IntWalk.wrap64_in _ (by omega)
              clear hk hm HD HF HT
              go_enter Try.func19, Try.ntmps19
              go_wp2
              go_ret
              exact ⟨rfl, ((Below.refl _ w).alloc (Nat.le_refl _) _).alloc (by simp) _⟩
          · have hdv : d = false := by rw [HD.out]; exact decide_eq_false fun h => by have := HF.out h; omega
            subst hdv
            have hv : wrap64 (k + m) = k + m := IntWalk.wrap64_in _ (by omega)
            clear hk hm HD HF HT
            go_enter Try.func19, Try.ntmps19
            go_wp2
            go_ret
            exact ⟨rfl, ((Below.refl _ w).alloc (Nat.le_refl _) _).alloc (by simp) _⟩
        · have hdv : d = false := by rw [HD.out]; exact decide_eq_false fun h => by have := HF.out h; omega
          subst hdv
          have hv : wrap64 (k + m) = k + m := IntWalk.wrap64_in _ (by omega)
          clear hk hm HD HF HT
          go_enter Try.func19, Try.ntmps19
          go_wp2
          go_ret
          exact ⟨rfl, ((Below.refl _ w).alloc (Nat.le_refl _) _).alloc (by simp) _⟩
      · have hdv : d = false := by rw [HD.out]; exact decide_eq_false fun h => by have := HF.out h; omega
        subst hdv
        clear hk hm HD HF HT
        go_enter Try.func19, Try.ntmps19
        go_wp2
        go_ret
        exact ⟨rfl, ((Below.refl _ w).alloc (Nat.le_refl _) _).alloc (by simp) _⟩
    · have hdv : d = false := by rw [HD.out]; exact decide_eq_false fun h => by have := HF.out h; omega
      subst hdv
      clear hk hm HD HF HT
      go_enter Try.func19, Try.ntmps19
      go_wp2
      go_ret
      exact ⟨rfl, ((Below.refl _ w).alloc (Nat.le_refl _) _).alloc (by simp) _⟩
  · have hdv : d = false := by rw [HD.out]; exact decide_eq_false fun h => by have := HF.out h; omega
    subst hdv
    clear hk hm HD HF HT
    go_enter Try.func19, Try.ntmps19
    go_wp2
    go_ret
    exact ⟨rfl, ((Below.refl _ w).alloc (Nat.le_refl _) _).alloc (by simp) _⟩

theorem twin_any (A : Option Addr) (n c : Nat) (bs : List UInt8) (w : World) (B : Nat) (hr : Reads w B 1 A n (bs.map B8)) (hn : n ≤ 140737488351232) :
    Calls Try.prog 18 #[.slice A n c] w fun e w' => ∃ v, e = .returned v ∧ w'.ownsRow w.heap.size 5 1 v n (bs.map B8) ∧ Below w.heap.size w w' := by
  have HRD := Lib.hid hr
  have HB8 : Hid (∀ u ∈ bs.map B8, u.oneCell' = true) := by intro u hu; simp only [List.mem_map] at hu; obtain ⟨b, _, rfl⟩ := hu; rfl
  have hm63 : 0 + n ≤ maxLen := by simp only [maxLen]; omega
  have HM63 := Lib.hid hm63
  have hm40 : (0 + n) * 1 ≤ 140737488355328 := by omega
  have HM40 := Lib.hid hm40
  clear hr hm63 hm40
  obtain ⟨i5, hi5, hz0, hz1, hz2⟩ := info_parts byteInfo
  go_enter Try.func18, Try.ntmps18
  go_wp2_with (at_builtin; go_loud (refine wpList_append_any _ rfl _ _ 33 rfl w.heap.size 5 i5 _ 1 1 Try.underlying33 hi5 hz0 hz1 hz2 rfl (by omega) (.slice none 0 0) 0 [] rfl (World.ownsRow_nil _ _ _ _) B A n c (bs.map B8) rfl HRD.out HB8.out HM63.out HM40.out (Nat.le_refl _) ?_); intro v1 w1 hown1 hg1 hat1; have HOWN := Lib.hid hown1; have HG1 := Lib.hid hg1; clear hown1 hg1 hat1)
  go_ret
  refine ⟨v1, rfl, ?_, (Below.refl _ _).grown HG1.out (Nat.le_refl _) (fun k hk => by simp [Value.ownBlock] at hk)⟩
  have := HOWN.out
  rwa [Nat.zero_add, List.nil_append] at this
end Go.Proofs.Ytdiaihpilniikaa

/- A loss of power, of the pure drive. No program in sight.; How drives in memory turn by a loss of power: the kept names, a body more, one drive's struct over another's; a map's new entry in two steps.; Contracts of the drive: Crash, Wipe. -/
import Derived.Test.YtcbebefdbdppdaaGreatM10
import Derived.IntWalk
import Derived.Deep.RegionHeld3
import Derived.Deep.DrawnRows
namespace Go.Proofs.YtcbebefdbdppdaaGreat
open Go.RowKit Go.Maps Go.Sort

namespace Drv
/-- What is kept of the names, behind the first k pending changes. -/
def crashK (S : Drv) (dirs : List Bool) : Nat → Dir
  | 0 => S.kept
  | k + 1 => if dirs.getD k false = true then applyC (S.crashK dirs k) (S.pending.getD k []) else S.crashK dirs k
/-- How many bytes of the j-th file stay. -/
def cutN (S : Drv) (D : Dir) (cuts : List Int) (j : Nat) : Nat :=
  (S.at_ D ((dnames D).getD j [])).safe + (min (max (cuts.getD j 0) 0) (((S.at_ D ((dnames D).getD j [])).data.length : Int) - (S.at_ D ((dnames D).getD j [])).safe)).toNat
def crashBody (S : Drv) (D : Dir) (cuts : List Int) (j : Nat) : Body := ⟨(S.at_ D ((dnames D).getD j [])).data.take (S.cutN D cuts j), S.cutN D cuts j⟩
def crashDir (D : Dir) : Nat → Dir
  | 0 => .map []
  | k + 1 => (crashDir D k).put (key ((dnames D).getD k [])) (num k)
def crashSum (S : Drv) (D : Dir) (cuts : List Int) : Nat → Nat
  | 0 => 0
  | k + 1 => S.crashSum D cuts k + S.cutN D cuts k
/-- The new drive, behind the first k files. -/
def crashAt (S : Drv) (D : Dir) (cuts : List Int) (k : Nat) : Drv :=
  ⟨S.room, S.crashSum D cuts k, (List.range k).map (S.crashBody D cuts), crashDir D k, crashDir D k, []⟩
def crash (S : Drv) (dirs : List Bool) (cuts : List Int) : Drv := S.crashAt (S.crashK dirs S.pending.length) cuts (dnames (S.crashK dirs S.pending.length)).length
end Drv

theorem dnames_perm (D : Dir) : (dnames D).Perm (strKeys D) := List.mergeSort_perm _ _
theorem mem_dnames {D : Dir} (hk : NmKeys D) (ht : Tidy D) {s : Nm} (h : s ∈ dnames D) : has D (key s) = true := by
  obtain ⟨es, rfl, _⟩ := ht
  rw [(dnames_perm _).mem_iff] at h
  obtain ⟨p, hp, rfl⟩ := List.mem_map.1 h
  obtain ⟨s, hs⟩ := hk p hp
  rw [has_eq, List.any_eq_true]
  exact ⟨p, hp, by rw [hs]; simp [Lit.sameKey, strOf, key]⟩
theorem dnames_nodup {D : Dir} (hk : NmKeys D) (ht : Tidy D) : (dnames D).Nodup := by
  obtain ⟨es, rfl, hp⟩ := ht
  rw [(dnames_perm _).nodup_iff]
  show (es.map fun p => strOf p.1).Nodup
  rw [List.Nodup, List.pairwise_map]
  refine hp.imp_of_mem ?_
  intro a b ha hb hne e
  obtain ⟨s, hs⟩ := hk a ha
  obtain ⟨t, ht⟩ := hk b hb
  rw [hs, ht] at hne e
  have : s = t := e
  exact hne (by rw [this])

theorem crashDir_facts {D : Dir} (hk : NmKeys D) (ht : Tidy D) (hf : Full D) : ∀ k, k ≤ (dnames D).length →
    Tidy (Drv.crashDir D k) ∧ NmKeys (Drv.crashDir D k) ∧ Full (Drv.crashDir D k) ∧ size (Drv.crashDir D k) ≤ k ∧ (∀ s, has (Drv.crashDir D k) (key s) = true → s ∈ (dnames D).take k) ∧ (refs (Drv.crashDir D k)).Nodup ∧ (∀ i ∈ refs (Drv.crashDir D k), i < k) ∧ (refs (Drv.crashDir D k)).Perm (List.range k)
  | 0, _ => ⟨tidy_empty, fun p hp => by (cases hp), fun s h => by (cases h), Nat.le_refl _, fun s h => by (cases h), List.nodup_nil, fun i hi => by (cases hi), .refl _⟩
  | k + 1, hl => by
    obtain ⟨h1, h2, h3, h4, h5, h6, h7, h8⟩ := crashDir_facts hk ht hf k (by omega)
    have hkl : k < (dnames D).length := by omega
    have hg : (dnames D)[k]? = some ((dnames D).getD k []) := by rw [List.getElem?_eq_getElem hkl]; simp [List.getD, hkl]
    have hm : (dnames D).getD k [] ∈ dnames D := List.mem_of_getElem? hg
    have hnd := dnames_nodup hk ht
    have hnot : has (Drv.crashDir D k) (key ((dnames D).getD k [])) = false := by
      cases hh : has (Drv.crashDir D k) (key ((dnames D).getD k [])) with
      | false => rfl
      | true =>
        exfalso
        have := h5 _ hh
        obtain ⟨j, hj, e⟩ := List.getElem_of_mem this
        rw [List.length_take] at hj
        rw [List.getElem_take] at e
        have e2 : (dnames D)[k] = (dnames D).getD k [] := by simp [List.getD, hkl]
        rw [← e2] at e
        exact (List.pairwise_iff_getElem.1 hnd) j k (by omega) hkl (by omega) e
    have hlen := (hf _ (mem_dnames hk ht hm)).1
    have hp := refs_put h1 ((dnames D).getD k []) k
    rw [del_of_not_has hnot] at hp
    have hp2 : (refs (Drv.crashDir D (k + 1))).Perm (List.range (k + 1)) := by
      refine hp.trans ?_
      rw [List.range_succ]
      exact (h8.cons k).trans (List.perm_append_singleton _ _).symm
    refine ⟨h1.put (isKey _) _, h2.put h1 _ _, h3.put h1 hlen k, ?_, ?_, ?_, ?_, hp2⟩
    · have := size_put_le h1 ((dnames D).getD k []) (num k)
      show size ((Drv.crashDir D k).put _ _) ≤ k + 1
      omega
    · intro s hs
      rw [List.take_add_one, hg]
      by_cases e : s = (dnames D).getD k []
      · rw [e]; simp
      · rw [show Drv.crashDir D (k + 1) = (Drv.crashDir D k).put (key ((dnames D).getD k [])) (num k) from rfl, has_put_other (key_ne e)] at hs
        exact List.mem_append_left _ (h5 s hs)
    · exact hp2.nodup_iff.2 List.nodup_range
    · intro i hi
      exact List.mem_range.1 (hp2.mem_iff.1 hi)

theorem crashK_facts {S : Drv} {N : Nat} (h : S.Inv N) (dirs : List Bool) : ∀ k, k ≤ S.pending.length → Full (S.crashK dirs k) ∧ Tidy (S.crashK dirs k) ∧ NmKeys (S.crashK dirs k) ∧ size (S.crashK dirs k) ≤ size S.kept + ((S.pending.take k).map puts).sum
  | 0, _ => ⟨h.fkept, h.tkept, h.kkept, Nat.le_add_right _ _⟩
  | k + 1, hl => by
    obtain ⟨h1, h2, h3, h4⟩ := crashK_facts h dirs k (by omega)
    have hkl : k < S.pending.length := by omega
    have hg : S.pending[k]? = some (S.pending.getD k []) := by rw [List.getElem?_eq_getElem hkl]; simp [List.getD, hkl]
    have hm : S.pending.getD k [] ∈ S.pending := List.mem_of_getElem? hg
    have e : ((S.pending.take (k + 1)).map puts).sum = ((S.pending.take k).map puts).sum + puts (S.pending.getD k []) := by
      rw [List.take_add_one, hg]; simp
    rw [e]
    unfold Drv.crashK
    split
    · obtain ⟨a, b, c⟩ := applyC_keeps (S.pending.getD k []) h1 h2 (h.pok _ hm)
      exact ⟨a, b, h3.app _ h2, by omega⟩
    · exact ⟨h1, h2, h3, by omega⟩

theorem cutN_le {S : Drv} {N : Nat} (h : S.Inv N) (D : Dir) (cuts : List Int) (j : Nat) : S.cutN D cuts j ≤ (S.at_ D ((dnames D).getD j [])).data.length ∧ S.cutN D cuts j ≤ 1073741824 := by
  have h1 := h.safe ((dget D ((dnames D).getD j [])).getD 0)
  have h2 := h.len ((dget D ((dnames D).getD j [])).getD 0)
  unfold Drv.len at h1 h2
  unfold Drv.cutN Drv.at_
  omega

theorem crashSum_eq {S : Drv} {N : Nat} (h : S.Inv N) (D : Dir) (cuts : List Int) (M : Nat) : ∀ k, k ≤ M → ((List.range k).map fun i => (S.crashAt D cuts M).len i).sum = S.crashSum D cuts k
  | 0, _ => rfl
  | k + 1, hl => by
    rw [List.range_succ, List.map_append, List.sum_append, crashSum_eq h D cuts M k (by omega)]
    have e : (S.crashAt D cuts M).len k = S.cutN D cuts k := by
      unfold Drv.len Drv.body Drv.crashAt
      simp only [List.getD, List.getElem?_map, List.getElem?_range (show k < M by omega), Option.map_some, Option.getD_some]
      show (List.take _ _).length = _
      rw [List.length_take]
      have := (cutN_le h D cuts k).1
      omega
    simp [e, Drv.crashSum]

/-- The new drive behind all its files. -/
theorem Drv.crash_inv {S : Drv} {N : Nat} (h : S.Inv N) (dirs : List Bool) (cuts : List Int) : (S.crash dirs cuts).Inv N := by
  obtain ⟨h1, h2, h3, h4⟩ := crashK_facts h dirs S.pending.length (Nat.le_refl _)
  rw [List.take_length] at h4
  unfold Drv.crash
  generalize hD : S.crashK dirs S.pending.length = D at *
  generalize hM : (dnames D).length = M
  have hMN : M ≤ N := by rw [← hM, dnames_length]; have := h.skept; omega
  obtain ⟨f1, f2, f3, f4, f5, f6, f7, f8⟩ := crashDir_facts h3 h2 h1 M (by omega)
  have hlen : ∀ i, (S.crashAt D cuts M).len i ≤ 1073741824 ∧ ((S.crashAt D cuts M).body i).safe ≤ (S.crashAt D cuts M).len i := by
    intro i
    unfold Drv.len Drv.body Drv.crashAt
    by_cases hi : i < M
    · simp only [List.getD, List.getElem?_map, List.getElem?_range hi, Option.map_some, Option.getD_some]
      show (List.take _ _).length ≤ _ ∧ S.cutN D cuts i ≤ (List.take _ _).length
      rw [List.length_take]
      have := cutN_le h D cuts i
      omega
    · simp only [List.getD]
      rw [List.getElem?_eq_none (by simp; omega)]
      exact ⟨Nat.zero_le _, Nat.le_refl _⟩
  exact {
    tnow := f1, tkept := f1, know := f2, kkept := f2, nodup := f6
    rlt := fun i hi => by have := f7 i hi; show i < ((List.range M).map _).length; simp; exact this
    used := by
      have e := (S.crashAt D cuts M).sum_perm f8
      show ((S.crashSum D cuts M : Nat) : Int) = (((S.crashAt D cuts M).sum (refs (Drv.crashDir D M)) : Nat) : Int)
      rw [e, ← crashSum_eq h D cuts M M (Nat.le_refl _)]
      rfl
    len := fun i => (hlen i).1
    safe := fun i => (hlen i).2
    fnow := f3, fkept := f3
    snow := Nat.le_trans f4 hMN
    skept := by show size (Drv.crashDir D M) + ([] : List Nat).sum ≤ N; simp; omega
    pend := Nat.zero_le _
    pok := fun c hc => by cases hc
    room := h.room
    rooms := h.rooms }
end Go.Proofs.YtcbebefdbdppdaaGreat
namespace Go.Proofs.YtcbebefdbdppdaaGreat
open Go.RowKit Go.Maps Go.WideMaps

def boolV (b : Bool) : Value := .bool b
def intV (n : Int) : Value := .int .i64 n

section
variable {w w' w1 : World} {p : Nat} {S : Drv} {L : Lay}
theorem dir_blk_ne {addr : List Nat} {b g : Nat} {D : Dir} {t : TypeId} {cs : Array Value} (h1 : DirAt w addr b D) (h2 : Blk w g t cs) : g ≠ b := by
  rintro rfl
  obtain ⟨es, clock, h3, _⟩ := h1
  unfold Blk at h2; rw [h3] at h2; injection h2 with h2; cases h2
theorem dir_row_ne {addr : List Nat} {b : Nat} {D : Dir} {base s n : Nat} {e : TypeId} {v : Value} {xs : List Value} (h1 : DirAt w addr b D) (h2 : w.ownsRow base e s v n xs) : ∀ k, v.ownBlock = some k → k ≠ b := by
  intro k hk
  rcases h2.2 with ⟨rfl, _⟩ | ⟨g, cap, cur, rfl, _, hh, _⟩
  · simp [Value.ownBlock] at hk
  · have hg : g = k := by simpa [Value.ownBlock] using hk
    subst hg
    exact dir_blk_ne (t := e) (cs := cur) h1 hh
theorem row_dir {addr : List Nat} {b : Nat} {D : Dir} {base s n : Nat} {e : TypeId} {v : Value} {xs : List Value} (h2 : w.ownsRow base e s v n xs) (h1 : DirAt w addr b D) (ht : Touch (· = b) w w') : w'.ownsRow base e s v n xs :=
  ownsRow_keep h2 fun k hk => ht.block k (h2.lt k hk).2 (dir_row_ne h1 h2 k hk)

theorem DrvAt.setKeptD (h : DrvAt w p S L) {D : Dir} (hd : DirAt w' L.addr L.keptM D) (ht : Touch (· = L.keptM) w w') : DrvAt w' p { S with kept := D } L := by
  have far : ∀ k, L.foot p k → k ≠ L.keptM → w'.heap[k]? = w.heap[k]? := fun k hf hk => ht.block k (h.foot_lt hf) hk
  exact {
    head := (far _ (.inl rfl) (dir_blk_ne h.kept h.head)).trans h.head
    now := h.now.keep (far _ (.inr (.inl rfl)) h.ne)
    kept := hd
    ne := h.ne, nodup := h.nodup, la := h.la, lv := h.lv
    body := fun i hi => (far _ (.inr (.inr (.inr (.inl (getD_mem 0 (by rw [h.la]; exact hi)))))) (dir_blk_ne h.kept (h.body i hi))).trans (h.body i hi)
    data := fun i hi => row_dir (h.data i hi) h.kept ht
    rows := h.rows
    pend := row_dir h.pend h.kept ht
    li := h.li, pok := h.pok
    inner := fun j hj => (far _ (.inr (.inr (.inr (.inr (.inr (.inr (getD_mem 0 (by rw [h.li]; exact hj)))))))) (dir_blk_ne h.kept (h.inner j hj))).trans (h.inner j hj) }

/-- A body more, in new blocks. -/
theorem DrvAt.addBodyV (h : DrvAt w p S L) (hb : Below w.heap.size w w1) {g n : Nat} {v : Value} {bs : List UInt8} (hg : w.heap.size ≤ g) (hblk : Blk w1 g 151 #[v, .int .i64 n]) (hrow : w1.ownsRow w.heap.size 5 1 v bs.length (bs.map B8)) :
    DrvAt w1 p { S with bodies := S.bodies ++ [⟨bs, n⟩] } { L with addr := L.addr ++ [g], vals := L.vals ++ [v] } := by
  have h1 := h.keep (w' := w1) fun k hf => hb.block k (h.foot_lt hf)
  have alt : ∀ i, i < S.bodies.length → Lay.adr { L with addr := L.addr ++ [g], vals := L.vals ++ [v] } i = L.adr i := fun i hi => getD_snoc_lt (by rw [h.la]; exact hi)
  have aeq : Lay.adr { L with addr := L.addr ++ [g], vals := L.vals ++ [v] } S.bodies.length = g := by rw [← h.la]; exact getD_snoc_eq
  have vlt : ∀ i, i < S.bodies.length → Lay.val { L with addr := L.addr ++ [g], vals := L.vals ++ [v] } i = L.val i := fun i hi => getD_snoc_lt (by rw [h.lv]; exact hi)
  have veq : Lay.val { L with addr := L.addr ++ [g], vals := L.vals ++ [v] } S.bodies.length = v := by rw [← h.lv]; exact getD_snoc_eq
  have blt : ∀ i, i < S.bodies.length → Drv.body { S with bodies := S.bodies ++ [⟨bs, n⟩] } i = S.body i := fun i hi => getD_snoc_lt hi
  have beq : Drv.body { S with bodies := S.bodies ++ [⟨bs, n⟩] } S.bodies.length = ⟨bs, n⟩ := getD_snoc_eq
  have hlast : ∀ i, i < (S.bodies ++ [(⟨bs, n⟩ : Body)]).length → ¬ i < S.bodies.length → i = S.bodies.length := fun i hi hn => by simp at hi; omega
  exact {
    head := h1.head
    now := h1.now.more _
    kept := h1.kept.more _
    ne := h.ne
    nodup := by
      rw [List.nodup_append]
      refine ⟨h.nodup, by simp, fun a ha b hb' e => ?_⟩
      simp at hb'; subst hb'; subst e
      have := h.foot_lt (.inr (.inr (.inr (.inl ha))))
      omega
    la := by simp [h.la]
    lv := by simp [h.lv]
    body := fun i hi => by
      by_cases e : i < S.bodies.length
      · rw [alt i e, vlt i e, blt i e]; exact h1.body i e
      · have := hlast i hi e; subst this; rw [aeq, veq, beq]; exact hblk
    data := fun i hi => by
      unfold Drv.len
      by_cases e : i < S.bodies.length
      · rw [vlt i e, blt i e]; exact h1.data i e
      · have := hlast i hi e; subst this; rw [veq, beq]; exact ownsRow_base_a hrow (Nat.zero_le _)
    rows := fun a b ha hb' hab => by
      have old : ∀ i, i < S.bodies.length → (L.val i).ownBlock = none ∨ (L.val i).ownBlock ≠ v.ownBlock := fun i hi => by
        cases hk : (L.val i).ownBlock with
        | none => exact .inl rfl
        | some k =>
          refine .inr fun e => ?_
          have k1 := ((h.data i hi).lt k hk).2
          have k2 := (hrow.lt k e.symm).1
          omega
      by_cases ea : a < S.bodies.length
      · rw [vlt a ea]
        by_cases eb : b < S.bodies.length
        · rw [vlt b eb]; exact h.rows a b ea eb hab
        · have := hlast b hb' eb; subst this; rw [veq]; exact old a ea
      · have := hlast a ha ea; subst this; rw [veq]
        by_cases eb : b < S.bodies.length
        · rw [vlt b eb]
          rcases old b eb with h2 | h2
          · rw [h2]
            cases v.ownBlock with
            | none => exact .inl rfl
            | some k => exact .inr (by simp)
          · exact .inr (Ne.symm h2)
        · have := hlast b hb' eb; exact absurd this.symm hab
    pend := h1.pend
    li := h.li
    pok := fun c hc => okC_more (h.pok c hc) _
    inner := fun j hj => by
      have hj' : j < S.pending.length := hj
      have hm : S.pending.getD j [] ∈ S.pending := getD_mem _ hj'
      show Blk _ (L.inr j) _ (chgCells (L.addr ++ [g]) (S.pending.getD j [])).toArray
      rw [chgCells_more _ _ _ (h.pok _ hm)]; exact h1.inner j hj' }

/-- A drive's struct is written over another's. -/
theorem DrvAt.moveTo {X : World} {pn : Nat} (h : DrvAt w pn S L) {c0 : Array Value} (hp : Blk w p 138 c0) (hX : Touch (· = p) w X)
    (hblk : Blk X p 138 #[.int .i64 S.room, .int .i64 S.used, .map (some L.nowM), .map (some L.keptM), L.pv]) : DrvAt X p S L := by
  have far : ∀ k, k < w.heap.size → k ≠ p → X.heap[k]? = w.heap[k]? := fun k hk hn => hX.block k hk hn
  have fd : ∀ {b : Nat} {D : Dir}, DirAt w L.addr b D → DirAt X L.addr b D := fun h1 => h1.keep (far _ h1.lt (fun e => dir_blk_ne h1 hp e.symm))
  have fb : ∀ {g : Nat} {t : TypeId} {cs : Array Value}, Blk w g t cs → t ≠ 138 → Blk X g t cs := fun h1 hne => (far _ h1.lt (h1.ne_ hp hne)).trans h1
  have fr : ∀ {base s n : Nat} {e : TypeId} {v : Value} {xs : List Value}, w.ownsRow base e s v n xs → e ≠ 138 → X.ownsRow base e s v n xs := fun h1 hne =>
    ownsRow_keep h1 fun k hk => far k (h1.lt k hk).2 (fun e' => own_blk_ne h1 hp hne (by rw [hk, e']))
  exact {
    head := hblk
    now := fd h.now
    kept := fd h.kept
    ne := h.ne, nodup := h.nodup, la := h.la, lv := h.lv
    body := fun i hi => fb (h.body i hi) (by decide)
    data := fun i hi => fr (h.data i hi) (by decide)
    rows := h.rows
    pend := fr h.pend (by decide)
    li := h.li, pok := h.pok
    inner := fun j hj => fb (h.inner j hj) (by decide) }
end

theorem modify_last {α : Type} (es : Array α) (x : α) (f : α → α) : (es.push x).modify es.size f = es.push (f x) := by
  apply Array.ext
  · simp
  · intro i h1 h2
    simp only [Array.getElem_modify, Array.getElem_push]
    by_cases h : i < es.size
    · simp [h, Nat.ne_of_gt h]
    · have : i = es.size := by simp at h1; omega
      subst this
      simp

/-- A new entry of a directory in two steps: the entry is made, then its element is laid. -/
theorem DirAt.entry {w : World} {addr : List Nat} {b : Nat} {D : Dir} (h : DirAt w addr b D) (hn : size D < maxLen) (s : ByteArray) (hnew : has D (key s.data.toList) = false) (hd : addr.Nodup) (hs : s.size ≤ maxLen) (i : Nat) (hi : i < addr.length) :
    ∃ (O1 O2 : Obj) (st : Int),
      (∀ W : World, W.heap[b]? = w.heap[b]? → (Instr.mapEntry 135 (.map (some b)) (.string s)).run Tryz.prog W = .ok (.tuple #[.pointer none, .int .i64 st]) (ChangeMaps.setBlock W b O1)) ∧
      (∀ W : World, W.heap[b]? = some O1 → (Instr.entryStore 135 (.map (some b)) (.int .i64 st) (ptrO addr (some i))).run Tryz.prog W = .ok () (ChangeMaps.setBlock W b O2)) ∧
      (∀ W : World, W.heap[b]? = some O2 → DirAt W addr b (D.put (key s.data.toList) (num i))) := by
  obtain ⟨w2, hrun2, hd2, hg2, hs2⟩ := h.put hn hd s hs i hi
  obtain ⟨es, clock, hb, F, hsz, hD⟩ := h
  have hkey : keyOf Tryz.prog 9 (.string s) = some (key s.data.toList) := keyOf_string_mk Tryz.underlying9 hs
  rcases Maps.fit_look false dirKeyed Tryz.underlying135 (nilBody w) hb F hkey with ⟨_, hno, _⟩ | ⟨e0, y, _, _, _, _, hat, _⟩
  · rcases dirKeyed.find w hkey es.toList F.keys with ⟨h1, _⟩ | ⟨j, e0, _, h2, h3⟩
    · have hup : (Instr.mapUpdate 135 (.map (some b)) (.string s) (ptrO addr (some i))).run Tryz.prog w = .ok () (ChangeMaps.setBlock w b (.map (es.push ⟨.string s, ptrO addr (some i), clock⟩) (clock + 1))) := by
        simp [Instr.mapUpdate, run_underlying Tryz.underlying135, MapKept.run_getObj_map hb, dirKeyed.check w false hkey, h1, MapKept.run_setObj_map _ hb, Result.andThen, ChangeMaps.setBlock]
      rw [hup] at hrun2
      injection hrun2 with _ e2
      refine ⟨.map (es.push ⟨.string s, .pointer none, clock⟩) (clock + 1), .map (es.push ⟨.string s, ptrO addr (some i), clock⟩) (clock + 1), clock, fun W hW => ?_, fun W hW => ?_, fun W hW => ?_⟩
      · have hbW : W.heap[b]? = some (.map es clock) := hW.trans hb
        have h1W : (Instr.findKey 9 (.string s) es.toList).run Tryz.prog W = .ok none W := by
          rcases dirKeyed.find W hkey es.toList F.keys with ⟨g1, _⟩ | ⟨j, e0, _, g2, g3⟩
          · exact g1
          · exact absurd g3 (hno e0 (List.mem_of_getElem? g2))
        simp [Instr.mapEntry, run_underlying Tryz.underlying135, MapKept.run_getObj_map hbW, dirKeyed.check W false hkey, h1W, nilBody W, MapKept.run_setObj_map _ hbW, Result.andThen, ChangeMaps.setBlock, goInt]
      · have hst : ∀ x ∈ es.toList, x.born < clock := F.stamped.1
        have hfi : (es.push ⟨.string s, .pointer none, clock⟩).findIdx? (fun e : MapEntry => (e.born : Int) == (clock : Int)) = some es.size := by
          rw [Array.findIdx?_push]
          have : es.findIdx? (fun e : MapEntry => (e.born : Int) == (clock : Int)) = none := by
            rw [Array.findIdx?_eq_none_iff]
            intro x hx
            have := hst x (by simpa using hx)
            simp; omega
          rw [this]; simp
        simp only [Instr.entryStore, Sem.run_bind, MapKept.run_getObj_map hW, Result.andThen_ok, asInt, asIntOf, Sem.run_pure, hfi]
        rw [MapKept.run_setObj_map _ hW, modify_last]
        rfl
      · refine hd2.keep ?_
        rw [hW, ← e2]
        exact (by
          have hlt : b < w.heap.size := (Array.getElem?_eq_some_iff.1 hb).1
          simp [ChangeMaps.setBlock, hlt])
    · exact absurd h3 (hno e0 (List.mem_of_getElem? h2))
  · exfalso
    rw [← hD] at hat
    have := has_true_of_atKey hat
    rw [hnew] at this
    cases this
end Go.Proofs.YtcbebefdbdppdaaGreat
namespace Go.Proofs.YtcbebefdbdppdaaGreat
open Go.RowKit Go.Maps Go.WideMaps
attribute [local go_sem ↓] Go.wp_at_zero Go.wp_at_succ

set_option maxRecDepth 100000 in
theorem crash_nil (v : Value) (cs : Array Value) (hv : v = .agg cs) (w : World) : Calls Tryz.prog 33 #[.pointer none, v] w fun e w' => e = .returned (.int .i64 1) ∧ Below w.heap.size w w' := by
  subst hv
  go_enter Tryz.func33, Tryz.ntmps33
  go_wp2
  go_ret
  exact ⟨rfl, (Below.refl _ _).alloc (Nat.le_refl _) _⟩

theorem Touch.set {G : Nat → Prop} {a b : World} (h : Touch G a b) {p : Addr} (hp : G p.block) (u : Value) : Touch G a (b.setCell p u) :=
  ⟨h.os, h.tape, h.output, by have := h.size; simpa [World.setCell] using this, fun k hk hn => (Below.heap_setCell b p u k (fun e => hn (by rw [e]; exact hp))).trans (h.block k hk hn)⟩
theorem size_set (w : World) (p : Addr) (u : Value) : (w.setCell p u).heap.size = w.heap.size := by simp [World.setCell]

theorem setBlock_same (W : World) {b : Nat} (O : Obj) (h : b < W.heap.size) : (ChangeMaps.setBlock W b O).heap[b]? = some O := by simp [ChangeMaps.setBlock, h]
theorem setBlock_other (W : World) {b k : Nat} (O : Obj) (h : k ≠ b) : (ChangeMaps.setBlock W b O).heap[k]? = W.heap[k]? := by simp [ChangeMaps.setBlock, Ne.symm h]
theorem setBlock_size (W : World) (b : Nat) (O : Obj) : (ChangeMaps.setBlock W b O).heap.size = W.heap.size := by simp [ChangeMaps.setBlock]
theorem setBlock_touch (W : World) (b : Nat) (O : Obj) : Touch (· = b) W (ChangeMaps.setBlock W b O) := ⟨rfl, rfl, rfl, by rw [setBlock_size]; exact Nat.le_refl _, fun k _ hk => setBlock_other W O hk⟩

theorem zip_get {L : Lay} {S : Drv} (hl : L.inner.length = S.pending.length) {k : Nat} (hk : k < S.pending.length) : (List.zipWith innerV L.inner S.pending)[k]? = some (innerV (L.inr k) (S.pending.getD k [])) := by
  rw [List.getElem?_zipWith, List.getElem?_eq_getElem (by omega), List.getElem?_eq_getElem hk]
  simp [Lay.inr, List.getD, hl, hk]

theorem crashSum_le {S : Drv} {N : Nat} (h : S.Inv N) (D : Dir) (cuts : List Int) : ∀ k, S.crashSum D cuts k ≤ k * 1073741824
  | 0 => Nat.zero_le _
  | k + 1 => by
    have h1 := crashSum_le h D cuts k
    have h2 := (cutN_le h D cuts k).2
    show S.crashSum D cuts k + S.cutN D cuts k ≤ (k + 1) * 1073741824
    rw [Nat.add_mul]; omega
theorem crashAt_succ (S : Drv) (D : Dir) (cuts : List Int) (k n : Nat) (nm : Nm) (bs : List UInt8) (hg : (dnames D).getD k [] = nm) (hn : n = S.cutN D cuts k) (hb : S.crashBody D cuts k = ⟨bs, n⟩) :
    ({ S.crashAt D cuts k with bodies := (S.crashAt D cuts k).bodies ++ [⟨bs, n⟩], now := (S.crashAt D cuts k).now.put (key nm) (num k), kept := (S.crashAt D cuts k).kept.put (key nm) (num k), used := (S.crashSum D cuts k : Int) + n } : Drv) = S.crashAt D cuts (k + 1) := by
  unfold Drv.crashAt
  simp only [List.range_succ, List.map_append, List.map_cons, List.map_nil, hb, Drv.crashDir, hg, Drv.crashSum, ← hn, Int.natCast_add]

set_option maxRecDepth 100000 in
set_option maxHeartbeats 8000000 in
theorem crash_any (p : Nat) (S : Drv) (N : Nat) (F : Nat → Prop) (pr : Option Addr) (nd cr : Nat) (dirs : List Bool) (pc : Option Addr) (nc cc : Nat) (cuts : List Int) (w : World) (hd : Dr w p S F) (hI : S.Inv N) (hN : N ≤ 2199023254000)
    (hr : Reads w w.heap.size 1 pr nd (dirs.map boolV)) (hc : Reads w w.heap.size 1 pc nc (cuts.map intV)) (hrs : ∀ ad, pr = some ad → 0 < nd → ad.spot = none) (hcs : ∀ ad, pc = some ad → 0 < nc → ad.spot = none) (hnd : nd ≤ 140737488351232) (hnc : nc ≤ 140737488351232) :
    Calls Tryz.prog 33 #[.pointer (some ⟨p, 0, none⟩), .agg #[.slice pr nd cr, .slice pc nc cc]] w fun e w' =>
      e = .returned (.int .i64 0) ∧ Dr w' p (S.crash dirs cuts) (grow F w w') ∧ Touch F w w' := by
  obtain ⟨addr, L, hL, hD, hF⟩ := hd
  have HI := Lib.hid hI
  have HF := Lib.hid hF
  have HRD := Lib.hid hr
  have HRC := Lib.hid hc
  have HRS := Lib.hid hrs
  have HCS := Lib.hid hcs
  have hpend := hI.pend
  have hkl := hD.kept.lt
  have hpl := hD.head.lt
  obtain ⟨W, hW⟩ : ∃ W, W = w.alloc (.cells #[.slice pr nd cr, .slice pc nc cc] 90) := ⟨_, rfl⟩
  have HBW : Hid (Below w.heap.size w W) := Lib.hid (by rw [hW]; exact (Below.refl _ w).alloc (Nat.le_refl _) _)
  have HBX : Hid (Blk W w.heap.size 90 #[.slice pr nd cr, .slice pc nc cc]) := Lib.hid (by rw [hW]; exact Blk.new _ _ _)
  have HWS : Hid (W.heap.size = w.heap.size + 1) := Lib.hid (by rw [hW]; simp)
  have hDW : DrvAt W p S L := hD.keep fun k hk => HBW.out.block k (hD.foot_lt hk)
  have HDW := Lib.hid hDW
  obtain ⟨a4, c4, hv4, _⟩ := own_shape hDW.pend
  obtain ⟨np, hnp⟩ : ∃ np, np = S.pending.length := ⟨_, rfl⟩
  have HNP := Lib.hid hnp
  have h4 : W.cell? ⟨p, 4, none⟩ = some (.slice a4 np c4) := by have := hDW.head.cell 4; rw [hv4, ← hnp] at this; exact this
  have HV4 := Lib.hid hv4
  rw [← hnp] at hpend
  rw [hW] at h4
  have HW := Lib.hid hW
  clear hI hF hr hc hrs hcs hD hDW hL hv4 hnp hW
  go_enter Tryz.func33, Tryz.ntmps33
  go_wp2
  rw [← HW.out]
  go_loopw [20] (fun s wr => ∃ k : Nat, k ≤ np ∧ s = .int .i64 k ∧ DrvAt wr p { S with kept := S.crashK dirs k } L ∧ Touch (· = L.keptM) W wr) (fun s _ => np - (intOf s).toNat)
  case atStart => exact ⟨0, Nat.zero_le _, rfl, HDW.out, Touch.refl _ _⟩
  case round =>
    obtain ⟨k, hk, rfl, hdr, htr⟩ := hrel
    have HDR := Lib.hid hdr
    have HTR := Lib.hid htr
    clear hdr htr
    by_cases hlt : k < np
    · have hkp : k < S.pending.length := by rw [← HNP.out]; exact hlt
      obtain ⟨gp, _, hvp, _, _⟩ := HDR.out.pend.form (by show 0 < S.pending.length; omega)
      rw [show L.pv = .slice a4 np c4 by rw [HV4.out, HNP.out]] at hvp
      have ha4 : a4 = some ⟨gp, 0, none⟩ := by injection hvp
      obtain ⟨C, hC⟩ : ∃ C, C = S.pending.getD k [] := ⟨_, rfl⟩
      have x0 : wr.cell? ⟨gp, k, none⟩ = some (.slice (some ⟨L.inr k, 0, none⟩) C.length C.length) := by
        have := HDR.out.pend.cells (g := gp) (by rw [show L.pv = .slice a4 np c4 by rw [HV4.out, HNP.out], ha4]; rfl) k _ (zip_get HDR.out.li hkp)
        rw [hC]; simpa [add_plain, innerV] using this
      subst ha4
      have hbk : w.heap.size ≠ L.keptM := by omega
      have hbx : Blk wr w.heap.size 90 #[.slice pr nd cr, .slice pc nc cc] := (HTR.out.block _ HBX.out.lt hbk).trans HBX.out
      have x1 : wr.cell? ⟨w.heap.size, 0, none⟩ = some (.slice pr nd cr) := hbx.cell 0
      have x3 : wr.cell? ⟨p, 3, none⟩ = some (.map (some L.keptM)) := HDR.out.head.cell 3
      have HC := Lib.hid hC
      clear hvp hbx hC
      have hcl := (HI.out.pok C (by rw [HC.out]; exact getD_mem _ hkp)).1
      have HOK : Hid (okC L.addr C) := Lib.hid (HDR.out.pok C (by rw [HC.out]; exact getD_mem _ hkp))
      have HIN : Hid (Blk wr (L.inr k) 240 (chgCells L.addr C).toArray) := Lib.hid (by have := HDR.out.inner k hkp; rw [HC.out]; exact this)
      have hcsz : size (S.crashK dirs k) + C.length ≤ 2199023255552 := by
        have h1 := (crashK_facts HI.out dirs k (by omega)).2.2.2
        have h2 := HI.out.skept
        have h3 : ((S.pending.take k).map puts).sum ≤ (S.pending.map puts).sum := by
          rw [List.map_take]; have e := congrArg List.sum (List.take_append_drop k (S.pending.map puts)); rw [List.sum_append] at e; omega
        omega
      have HCSZ := Lib.hid hcsz
      clear hcsz
      by_cases hkd : k < nd
      · obtain ⟨bv, hbv⟩ : ∃ b, dirs[k]? = some b := ⟨_, List.getElem?_eq_getElem (by have := HRD.out.1; simp at this; omega)⟩
        obtain ⟨ad, hpr, hbl, hcl⟩ := HRD.out.2 (by omega)
        obtain ⟨gd, od, sp⟩ := ad
        have hsp : sp = none := HRS.out _ hpr (by omega)
        subst hsp
        subst hpr
        have hcd : w.cell? ⟨gd, od + k, none⟩ = some (.bool bv) := by
          have := hcl k (boolV bv) (by rw [List.getElem?_map, hbv]; rfl)
          rwa [add_plain] at this
        have hne : gd ≠ L.keptM := by
          intro e
          obtain ⟨es, clock, hm, _⟩ := HDW.out.kept
          have hm2 : w.heap[L.keptM]? = some (.map es clock) := by rw [← HBW.out.block _ hkl]; exact hm
          unfold World.cell? at hcd
          simp only [e, hm2] at hcd
          cases hcd
        have x2 : wr.cell? ⟨gd, od + k, none⟩ = some (.bool bv) := by
          rw [← hcd]
          exact World.cell?_of_block ((HTR.out.block gd (by have := HWS.out; have : gd < w.heap.size := hbl; omega) hne).trans (HBW.out.block gd hbl))
        have hgd : dirs.getD k false = bv := by simp [List.getD, hbv]
        have hstep : S.crashK dirs (k + 1) = if bv = true then applyC (S.crashK dirs k) C else S.crashK dirs k := by
          rw [HC.out, ← hgd]; rfl
        have HST := Lib.hid hstep
        clear hcd hcl hbv hgd hstep hne hbl
        cases bv
        · have HD1 : Hid (DrvAt wr p { S with kept := S.crashK dirs (k + 1) } L) := Lib.hid (by rw [HST.out]; exact HDR.out)
          go_wp2
          go_roundw
          case rel => exact ⟨k + 1, by omega, by go_num, HD1.out, HTR.out⟩
          case measure => simp [intOf]; omega
        · go_wp2_with (go_at_call 81; refine (apply_any L.keptM (L.inr k) (S.crashK dirs k) L.addr C wr HDR.out.kept HIN.out HDR.out.nodup HOK.out HCSZ.out).mono ?_; rintro e w2 ⟨rfl, hd2, ht2⟩; have HD1 : Hid (DrvAt w2 p { S with kept := S.crashK dirs (k + 1) } L) := Lib.hid (by rw [HST.out]; exact HDR.out.setKeptD hd2 ht2); have HT1 : Hid (Touch (· = L.keptM) W w2) := Lib.hid (HTR.out.trans (ht2.mono fun j _ hj => .inl hj)); clear hd2 ht2)
          go_roundw
          case rel => exact ⟨k + 1, by omega, by go_num, HD1.out, HT1.out⟩
          case measure => simp [intOf]; omega
      · have hgd : dirs.getD k false = false := by
          have := HRD.out.1; simp at this
          rw [List.getD, List.getElem?_eq_none (by omega)]; rfl
        have HD1 : Hid (DrvAt wr p { S with kept := S.crashK dirs (k + 1) } L) := Lib.hid (by
          have : S.crashK dirs (k + 1) = S.crashK dirs k := by show (if dirs.getD k false = true then _ else _) = _; rw [hgd]; rfl
          rw [this]; exact HDR.out)
        clear hgd
        have hkd2 : decide ((k : Int) < (nd : Int)) = false := by simp; omega
        go_wp2
        go_roundw
        case rel => exact ⟨k + 1, by omega, by go_num, HD1.out, HTR.out⟩
        case measure => simp [intOf]; omega
    · have hkn : k = np := by omega
      have HDQ : Hid (DrvAt wr p { S with kept := S.crashK dirs np } L) := Lib.hid (by rw [← hkn]; exact HDR.out)
      obtain ⟨wq, hwq⟩ : ∃ wq : World, wq = wr := ⟨_, rfl⟩
      rw [← hwq] at HDR HTR HDQ ⊢
      clear hwq
      obtain ⟨D, hD⟩ : ∃ D, D = S.crashK dirs np := ⟨_, rfl⟩
      rw [← hD] at HDQ
      have HDD := Lib.hid hD
      obtain ⟨kf, kt, kn, ks⟩ := crashK_facts HI.out dirs S.pending.length (Nat.le_refl _)
      rw [← HNP.out, ← hD] at kf kt kn ks
      have hsD : size D ≤ 2199023254000 := by
        have h2 := HI.out.skept
        rw [HNP.out, List.take_length] at ks
        omega
      have HKF := Lib.hid kf
      have HKT := Lib.hid kt
      have HKN := Lib.hid kn
      obtain ⟨m, hm⟩ : ∃ m, m = (dnames D).length := ⟨_, rfl⟩
      have hmD : m ≤ 2199023254000 := by rw [hm, dnames_length]; exact hsD
      have HM := Lib.hid hm
      have hrm := HI.out.room
      have q0 : wq.cell? ⟨p, 0, none⟩ = some (.int .i64 S.room) := HDQ.out.head.cell 0
      have q3 : wq.cell? ⟨p, 3, none⟩ = some (.map (some L.keptM)) := HDQ.out.head.cell 3
      have hplq := HDQ.out.head.lt
      have hszq : W.heap.size ≤ wq.heap.size := HTR.out.size
      clear kf kt kn ks hm hD hkn
      go_wp2_with fail
      refine (new_good S.room wq (by omega) (by omega)).mono ?_
      rintro e w3 ⟨rfl, hw3⟩
      obtain ⟨Ln, hLa, hDn, hFn⟩ := dr_new wq S.room
      rw [← hw3] at hDn
      have HDN : Hid (DrvAt w3 (wq.heap.size + 2) (S.crashAt D cuts 0) Ln) := Lib.hid hDn
      have HFN := Lib.hid hFn
      have HB3 : Hid (Below wq.heap.size wq w3) := Lib.hid (by rw [hw3]; exact (((Below.refl _ _).alloc (Nat.le_refl _) _).alloc (by simp) _).alloc (by simp; omega) _)
      have r3 : w3.cell? ⟨p, 3, none⟩ = some (.map (some L.keptM)) := (HB3.out.cell hplq).trans q3
      have hd3 : DrvAt w3 p { S with kept := D } L := HDQ.out.keep fun k hk => HB3.out.block k (HDQ.out.foot_lt hk)
      have HD3 := Lib.hid hd3
      have hsz3 : wq.heap.size ≤ w3.heap.size := HB3.out.size
      clear hw3 hDn hFn hLa hd3 q0 q3
      go_wp2_with fail
      refine (names_any L.keptM D L.addr w3 HD3.out.kept (by omega)).mono ?_
      rintro e w4 ⟨v, rfl, ho, hb4⟩
      rw [← HM.out] at ho
      obtain ⟨an, cn, rfl, _⟩ := own_shape ho
      obtain ⟨pn, hpn⟩ : ∃ pn, pn = wq.heap.size + 2 := ⟨_, rfl⟩
      have HD4 : Hid (DrvAt w4 pn (S.crashAt D cuts 0) Ln) := Lib.hid (by rw [hpn]; exact HDN.out.keep fun k hk => hb4.block k (HDN.out.foot_lt hk))
      have HO4 := Lib.hid ho
      have HB4 : Hid (Below wq.heap.size wq w4) := Lib.hid (HB3.out.trans (hb4.mono hsz3))
      have hpnq : wq.heap.size ≤ pn := by omega
      rw [← hpn] at HFN ⊢
      clear ho hb4 hpn HDN
      go_wp2
      go_loopw [55] (fun s wr => ∃ k : Nat, k ≤ m ∧ s = .int .i64 k ∧ (∃ Lk, DrvAt wr pn (S.crashAt D cuts k) Lk ∧ (∀ j, Lk.foot pn j → wq.heap.size ≤ j)) ∧ Below wq.heap.size wq wr ∧ wr.ownsRow 0 9 1 (.slice an m cn) m ((dnames D).map strV)) (fun s _ => m - (intOf s).toNat)
      case atStart => exact ⟨0, Nat.zero_le _, rfl, ⟨Ln, HD4.out, HFN.out⟩, HB4.out, ownsRow_base_a HO4.out (Nat.zero_le _)⟩
      case round =>
        obtain ⟨k, hk, rfl, ⟨Lk, hdk, hfk⟩, hbk, hok⟩ := hrel
        have HDK := Lib.hid hdk
        have HFK := Lib.hid hfk
        have HBK := Lib.hid hbk
        have HOK := Lib.hid hok
        have hszk := hbk.size
        clear hdk hfk hbk hok
        have hwsl : w.heap.size < W.heap.size := by have := HWS.out; omega
        by_cases hltm : k < m
        · obtain ⟨nm, hnm⟩ : ∃ s, (dnames D)[k]? = some s := ⟨_, List.getElem?_eq_getElem (by rw [← HM.out]; exact hltm)⟩
          have hmem : nm ∈ dnames D := List.mem_of_getElem? hnm
          obtain ⟨hn1, i, hg⟩ := HKF.out nm (mem_dnames HKN.out HKT.out hmem)
          have hgn : (dnames D).getD k [] = nm := by simp [List.getD, hnm]
          obtain ⟨gn, cap, hvn, _, hgnl⟩ := HOK.out.form (by omega)
          have han : an = some ⟨gn, 0, none⟩ := by injection hvn
          have x0 : wr.cell? ⟨gn, k, none⟩ = some (.string ⟨nm.toArray⟩) := by
            have := HOK.out.cells (g := gn) (by rw [han]; rfl) k (strV nm) (by rw [List.getElem?_map, hnm]; rfl)
            simpa [add_plain, strV] using this
          subst han
          have hDr : DrvAt wr p { S with kept := D } L := HDQ.out.keep fun j hj => HBK.out.block j (HDQ.out.foot_lt hj)
          have x3 : wr.cell? ⟨p, 3, none⟩ = some (.map (some L.keptM)) := hDr.head.cell 3
          have hl := hDr.kept.lookup ⟨nm.toArray⟩ (by show nm.toArray.size ≤ maxLen; simp [maxLen]; omega)
          have he : (⟨nm.toArray⟩ : ByteArray).data.toList = nm := by simp
          rw [he, hg] at hl
          simp only [ptrO] at hl
          have hib : i < S.bodies.length := by have := hDr.kept.dget_lt nm (by unfold maxLen; omega) hg; rw [hDr.la] at this; exact this
          obtain ⟨ai, ci, hvi, hcc⟩ := own_shape (hDr.data i hib)
          have hlen := HI.out.len i
          have hsafe := HI.out.safe i
          have hcc : S.len i ≤ ci := hcc
          obtain ⟨ln, hln⟩ : ∃ ln, ln = S.len i := ⟨_, rfl⟩
          obtain ⟨sf, hsf⟩ : ∃ sf, sf = (S.body i).safe := ⟨_, rfl⟩
          have y0 : wr.cell? ⟨adrOf L.addr i, 0, none⟩ = some (.slice ai ln ci) := by have := (hDr.body i hib).cell 0; rw [hvi] at this; rw [hln]; exact this
          have y1 : wr.cell? ⟨adrOf L.addr i, 1, none⟩ = some (.int .i64 sf) := by rw [hsf]; exact (hDr.body i hib).cell 1
          have hbx : Blk wr w.heap.size 90 #[.slice pr nd cr, .slice pc nc cc] := (HBK.out.block _ (by omega)).trans ((HTR.out.block _ HBX.out.lt (by omega)).trans HBX.out)
          have x1 : wr.cell? ⟨w.heap.size, 1, none⟩ = some (.slice pc nc cc) := hbx.cell 1
          rw [← hln] at hlen hsafe hcc
          rw [← hsf] at hsafe
          have hat : S.at_ D nm = S.body i := by unfold Drv.at_; rw [hg]; rfl
          obtain ⟨n, hn⟩ : ∃ n, n = S.cutN D cuts k := ⟨_, rfl⟩
          have hnv : n = sf + (min (max (cuts.getD k 0) 0) ((ln : Int) - sf)).toNat := by
            rw [hn, hsf, hln]; unfold Drv.cutN; rw [hgn, hat]; rfl
          have hnl : n ≤ ln := by rw [hnv]; omega
          have HRB : Hid (Reads wr wr.heap.size 1 ai n (((S.body i).data.take n).map B8)) := Lib.hid (by
            have := (reads_own hvi (hDr.data i hib)).cutTo (m := n) (by show n ≤ S.len i; rw [← hln]; exact hnl)
            rwa [← List.map_take] at this)
          have HBD : Hid (S.crashBody D cuts k = ⟨(S.body i).data.take n, n⟩) := Lib.hid (by unfold Drv.crashBody; rw [hgn, hat, ← hn])
          have HTL : Hid (((S.body i).data.take n).length = n) := Lib.hid (by rw [List.length_take]; have : (S.body i).data.length = S.len i := rfl; omega)
          have HNV := Lib.hid hnv
          have HNN := Lib.hid hn
          have HGN := Lib.hid hgn
          have HHAS : Hid (has (Drv.crashDir D k) (key nm) = false) := Lib.hid (by
            cases hh : has (Drv.crashDir D k) (key nm) with
            | false => rfl
            | true =>
              exfalso
              have h1 := (crashDir_facts HKN.out HKT.out HKF.out k (by rw [← HM.out]; omega)).2.2.2.2.1 _ hh
              obtain ⟨j, hj, e⟩ := List.getElem_of_mem h1
              rw [List.length_take] at hj
              rw [List.getElem_take] at e
              have e2 : (dnames D)[k]'(by rw [← HM.out]; exact hltm) = nm := by
                have := List.getElem?_eq_getElem (l := dnames D) (i := k) (by rw [← HM.out]; exact hltm)
                rw [hnm] at this; exact (Option.some.inj this).symm
              rw [← e2] at e
              exact (List.pairwise_iff_getElem.1 (dnames_nodup HKN.out HKT.out)) j k (by omega) (by rw [← HM.out]; exact hltm) (by omega) e)
          have hszc : size (Drv.crashDir D k) ≤ k := (crashDir_facts HKN.out HKT.out HKF.out k (by rw [← HM.out]; omega)).2.2.2.1
          obtain ⟨z, hz⟩ : ∃ z : Int, z = min (max (cuts.getD k 0) 0) ((ln : Int) - sf) := ⟨_, rfl⟩
          have hz0 : 0 ≤ z := by rw [hz]; omega
          have hz1 : z ≤ ln := by rw [hz]; omega
          have hzn : z + sf = n := by rw [hnv, ← hz]; omega
          have HZ := Lib.hid hz
          have HZN := Lib.hid hzn
          clear hnv hn hgn hat hbx hvi hg he hDr hvn hnm hmem hln hsf hz hzn
          by_cases hkc : k < nc
          case' pos =>
            obtain ⟨cv, hcv⟩ : ∃ b, cuts[k]? = some b := ⟨_, List.getElem?_eq_getElem (by have := HRC.out.1; simp at this; omega)⟩
            obtain ⟨ad, hpc, hbl, hcl⟩ := HRC.out.2 (by omega)
            obtain ⟨gc, oc, sp⟩ := ad
            have hsp : sp = none := HCS.out _ hpc (by omega)
            subst hsp
            subst hpc
            have hcd : w.cell? ⟨gc, oc + k, none⟩ = some (.int .i64 cv) := by
              have := hcl k (intV cv) (by rw [List.getElem?_map, hcv]; rfl)
              rwa [add_plain] at this
            have hne : gc ≠ L.keptM := by
              intro e
              obtain ⟨es, clock, hm, _⟩ := HDW.out.kept
              have hm2 : w.heap[L.keptM]? = some (.map es clock) := by rw [← HBW.out.block _ hkl]; exact hm
              unfold World.cell? at hcd
              simp only [e, hm2] at hcd
              cases hcd
            have hbl2 : gc < w.heap.size := hbl
            have hws := HWS.out
            have x2 : wr.cell? ⟨gc, oc + k, none⟩ = some (.int .i64 cv) := by
              rw [← hcd]
              exact World.cell?_of_block ((HBK.out.block gc (by omega)).trans ((HTR.out.block gc (by omega) hne).trans (HBW.out.block gc hbl2)))
            have HCV : Hid (cuts.getD k 0 = cv) := Lib.hid (by simp [List.getD, hcv])
            rw [HCV.out] at HZ
            clear hcd hcl hcv hne hbl
            go_wp2
            go_quiet (fail)
            rw [← HZ.out]
            refine exit_world fun X hX => ?_
            have hbX : Below wr.heap.size wr X := by rw [hX]; exact below_drewN (Below.refl _ _) nq
            have HX := Lib.hid hbX
            have z0 : X.cell? ⟨adrOf L.addr i, 0, none⟩ = some (.slice ai ln ci) := by rw [hX]; exact y0
            have z1 : X.cell? ⟨adrOf L.addr i, 1, none⟩ = some (.int .i64 sf) := by rw [hX]; exact y1
            have HRX := Lib.hid (HRB.out.below hbX)
            clear hX y0 y1 x0 x1 x2 x3 hl hbX
            have hzn := HZN.out
            go_wp2_with fail
            clear hzn
          case' neg =>
            have hgc : cuts.getD k 0 = 0 := by
              have := HRC.out.1; simp at this
              rw [List.getD, List.getElem?_eq_none (by omega)]; rfl
            have hns : n = sf := by
              have h1 := HZ.out; have h2 := HZN.out; rw [hgc] at h1; omega
            subst hns
            obtain ⟨X, hX⟩ : ∃ X : World, X = wr := ⟨_, rfl⟩
            rw [← hX] at x0 x1 x3 hl y0 y1 ⊢
            have hbX : Below wr.heap.size wr X := by rw [hX]; exact Below.refl _ _
            have HX := Lib.hid hbX
            have HRX := Lib.hid (HRB.out.below hbX)
            have hkc2 : decide ((k : Int) < (nc : Int)) = false := by simp; omega
            clear hX hgc hbX
            go_wp2_with fail
            clear y0 y1 x0 x1 x3 hl hkc2
          all_goals
            refine (clone_any ai _ ci _ X _ HRX.out (by omega)).mono ?_
            rintro e w5 ⟨v5, rfl, ho5, hb5⟩
            obtain ⟨a5, c5, rfl, _⟩ := own_shape ho5
            have HO5 := Lib.hid ho5
            have HB5 := Lib.hid hb5
            have HXD := Lib.hid (HDK.out.keep fun j hj => HX.out.block j (HDK.out.foot_lt hj))
            clear ho5 hb5
            go_wp2_with fail
            refine wp_world fun W6 hW6 => ?_
            obtain ⟨g, hg⟩ : ∃ g, g = w5.heap.size := ⟨_, rfl⟩
            rw [← hg]
            have hgq : wq.heap.size ≤ g := by rw [hg]; have h1 := HB5.out.size; have h2 := HX.out.size; omega
            have hB6 : Below X.heap.size X W6 := by rw [hW6]; exact HB5.out.alloc HB5.out.size _
            have hblk : Blk W6 g 151 #[.slice a5 n c5, .int .i64 n] := by rw [hW6, hg]; exact Blk.new _ _ _
            have hrow : W6.ownsRow X.heap.size 5 1 (.slice a5 n c5) ((S.body i).data.take n).length (((S.body i).data.take n).map B8) := by rw [hW6, HTL.out]; exact HO5.out.alloc _
            have hA := HXD.out.addBodyV hB6 (by rw [hg]; exact HB5.out.size) hblk hrow
            have HA := Lib.hid hA
            have hkb : (S.crashAt D cuts k).bodies.length = k := by simp [Drv.crashAt]
            have hla : Lk.addr.length = k := by rw [HXD.out.la, hkb]
            have m2 : W6.cell? ⟨pn, 2, none⟩ = some (.map (some Lk.nowM)) := hA.head.cell 2
            have m3 : W6.cell? ⟨pn, 3, none⟩ = some (.map (some Lk.keptM)) := hA.head.cell 3
            have hpt : ptrO (Lk.addr ++ [g]) (some k) = .pointer (some ⟨g, 0, none⟩) := by
              show Value.pointer (some ⟨adrOf (Lk.addr ++ [g]) k, 0, none⟩) = _
              rw [show adrOf (Lk.addr ++ [g]) k = g by rw [← hla]; exact getD_snoc_eq]
            have hsn : (⟨nm.toArray⟩ : ByteArray).data.toList = nm := by simp
            obtain ⟨O1, O2, s1, e1, e2, e3⟩ := hA.now.entry (by show size (Drv.crashDir D k) < maxLen; unfold maxLen; omega) ⟨nm.toArray⟩ (by rw [hsn]; exact HHAS.out) hA.nodup (by show nm.toArray.size ≤ maxLen; simp [maxLen]; omega) k (by simp [hla])
            obtain ⟨O3, O4, s2, e4, e5, e6⟩ := hA.kept.entry (by show size (Drv.crashDir D k) < maxLen; unfold maxLen; omega) ⟨nm.toArray⟩ (by rw [hsn]; exact HHAS.out) hA.nodup (by show nm.toArray.size ≤ maxLen; simp [maxLen]; omega) k (by simp [hla])
            rw [hpt] at e2 e5
            rw [hsn] at e3 e6
            have E1 := Lib.hid e1
            have E2 := Lib.hid e2
            have E3 := Lib.hid e3
            have E4 := Lib.hid e4
            have E5 := Lib.hid e5
            have E6 := Lib.hid e6
            have HPT := Lib.hid hpt
            clear e1 e2 e3 e4 e5 e6 hA hW6 hg hkb hla hpt hsn hblk hrow
            have hne := HA.out.ne
            have hnl2 : Lk.nowM < W6.heap.size := HA.out.now.lt
            have hkl2 : Lk.keptM < W6.heap.size := HA.out.kept.lt
            have hn1 : pn ≠ Lk.nowM := dir_blk_ne HA.out.now HA.out.head
            have hn2 : pn ≠ Lk.keptM := dir_blk_ne HA.out.kept HA.out.head
            obtain ⟨V1, hV1⟩ : ∃ V, V = ChangeMaps.setBlock W6.drew Lk.nowM O1 := ⟨_, rfl⟩
            obtain ⟨V2, hV2⟩ : ∃ V, V = ChangeMaps.setBlock V1 Lk.nowM O2 := ⟨_, rfl⟩
            obtain ⟨V3, hV3⟩ : ∃ V, V = ChangeMaps.setBlock V2 Lk.keptM O3 := ⟨_, rfl⟩
            obtain ⟨V4, hV4⟩ : ∃ V, V = ChangeMaps.setBlock V3 Lk.keptM O4 := ⟨_, rfl⟩
            have l1 : V1.heap.size = W6.heap.size := by rw [hV1, setBlock_size]; rfl
            have l2 : V2.heap.size = W6.heap.size := by rw [hV2, setBlock_size, l1]
            have l3 : V3.heap.size = W6.heap.size := by rw [hV3, setBlock_size, l2]
            have f1 : (Instr.mapEntry 135 (.map (some Lk.nowM)) (.string ⟨nm.toArray⟩)).run Tryz.prog W6.drew = .ok (.tuple #[.pointer none, .int .i64 s1]) V1 := by rw [hV1]; exact E1.out _ rfl
            have f2 : (Instr.entryStore 135 (.map (some Lk.nowM)) (.int .i64 s1) (.pointer (some ⟨g, 0, none⟩))).run Tryz.prog V1 = .ok () V2 := by rw [hV2]; exact E2.out _ (by rw [hV1]; exact setBlock_same _ _ hnl2)
            have f3 : (Instr.mapEntry 135 (.map (some Lk.keptM)) (.string ⟨nm.toArray⟩)).run Tryz.prog V2 = .ok (.tuple #[.pointer none, .int .i64 s2]) V3 := by
              rw [hV3]; exact E4.out _ (by rw [hV2, setBlock_other _ _ (Ne.symm hne), hV1, setBlock_other _ _ (Ne.symm hne)]; rfl)
            have f4 : (Instr.entryStore 135 (.map (some Lk.keptM)) (.int .i64 s2) (.pointer (some ⟨g, 0, none⟩))).run Tryz.prog V3 = .ok () V4 := by rw [hV4]; exact E5.out _ (by rw [hV3]; exact setBlock_same _ _ (by rw [l2]; exact hkl2))
            have hT2 : Touch (· = Lk.nowM) W6 V2 := by
              have h1 : Touch (· = Lk.nowM) W6 V1 := by rw [hV1]; exact (Touch.drewN (F := (· = Lk.nowM)) W6 1).trans ((setBlock_touch W6.drew Lk.nowM O1).mono fun k _ hk => .inl hk)
              refine h1.trans ?_
              rw [hV2]; exact (setBlock_touch _ _ _).mono fun k _ hk => .inl hk
            have hT4 : Touch (· = Lk.keptM) V2 V4 := by
              have h1 : Touch (· = Lk.keptM) V2 V3 := by rw [hV3]; exact setBlock_touch _ _ _
              refine h1.trans ?_
              rw [hV4]; exact (setBlock_touch _ _ _).mono fun k _ hk => .inl hk
            have hD2 := HA.out.setNow (E3.out V2 (by rw [hV2]; exact setBlock_same _ _ (by rw [l1]; exact hnl2))) hT2
            have hD4 := hD2.setKeptD (E6.out V4 (by rw [hV4]; exact setBlock_same _ _ (by rw [l3]; exact hkl2))) hT4
            have cell1 : ∀ j, V1.cell? ⟨pn, j, none⟩ = W6.cell? ⟨pn, j, none⟩ := fun j => World.cell?_of_block (by rw [hV1, setBlock_other _ _ hn1]; rfl)
            have cell2 : ∀ j, V2.cell? ⟨pn, j, none⟩ = W6.cell? ⟨pn, j, none⟩ := fun j => World.cell?_of_block (hT2.block _ HA.out.head.lt hn1)
            have cell3 : ∀ j, V3.cell? ⟨pn, j, none⟩ = W6.cell? ⟨pn, j, none⟩ := fun j => (World.cell?_of_block (by rw [hV3, setBlock_other _ _ hn2])).trans (cell2 j)
            have cell4 : ∀ j, V4.cell? ⟨pn, j, none⟩ = W6.cell? ⟨pn, j, none⟩ := fun j => (World.cell?_of_block (hT4.block _ (by rw [l2]; exact HA.out.head.lt) hn2)).trans (cell2 j)
            have a2 := (cell1 2).trans m2
            have a3 := (cell1 3).trans m3
            have b2 := (cell2 2).trans m2
            have b3 := (cell2 3).trans m3
            have c2 := (cell3 2).trans m2
            have c3 := (cell3 3).trans m3
            have d2 := (cell4 2).trans m2
            have d3 := (cell4 3).trans m3
            have HD4' := Lib.hid hD4
            have HK2 := Lib.hid hD2.kept
            obtain ⟨su, hsu⟩ : ∃ su, su = S.crashSum D cuts k := ⟨_, rfl⟩
            have hsul : su ≤ 1152921504606846976 := by
              have h1 := crashSum_le HI.out D cuts k
              have h2 := HI.out.rooms
              have h3 : k * 1073741824 ≤ N * 1073741824 := Nat.mul_le_mul_right _ (by have h4 := (crashK_facts HI.out dirs S.pending.length (Nat.le_refl _)).2.2.2; rw [List.take_length, ← HNP.out, ← HDD.out] at h4; have h5 := HI.out.skept; have h6 := HM.out; rw [dnames_length] at h6; omega)
              omega
            have HSU := Lib.hid hsu
            have HT2 := Lib.hid hT2
            have HT4 := Lib.hid hT4
            have HB6 := Lib.hid hB6
            have d1 : V4.cell? ⟨pn, 1, none⟩ = some (.int .i64 su) := by rw [hsu]; exact hD4.head.cell 1
            have d1f : V4.frozen? ⟨pn, 1, none⟩ = false := hD4.head.frozen 1
            clear hsu hV1 hV2 hV3 hV4 l1 l2 l3 hT2 hT4 hD2 hD4 cell1 cell2 cell3 cell4 hB6 hne hn1 hn2
            go_region_held3 (fun w' => w'.cell? ⟨pn, 2, none⟩ = some (.map (some Lk.nowM)) ∧ w'.cell? ⟨pn, 3, none⟩ = some (.map (some Lk.keptM))) (go_keep) (fail)
            go_wp2
            go_roundw
            case rel =>
              have hEQ := crashAt_succ S D cuts k n nm ((S.body i).data.take n) HGN.out HNN.out HBD.out
              have hD5 := HD4'.out.setUsed ((su : Int) + n)
              have hfl : ∀ j, (j = Lk.nowM ∨ j = Lk.keptM ∨ j = pn) → wq.heap.size ≤ j := fun j hj => by
                rcases hj with rfl | rfl | rfl
                · exact HFK.out _ (.inr (.inl rfl))
                · exact HFK.out _ (.inr (.inr (.inl rfl)))
                · exact hpnq
              have hx1 := HX.out.size
              have hB6q : Below wq.heap.size wq W6 := HBK.out.trans ((HX.out.trans (HB6.out.mono hx1)).mono hszk)
              have hB2 : Below wq.heap.size wq V2 := hB6q.trans (HT2.out.below hB6q.size fun j hj => hfl j (.inl hj))
              have hB4 : Below wq.heap.size wq V4 := hB2.trans (HT4.out.below hB2.size fun j hj => hfl j (.inr (.inl hj)))
              have hrow1 := ownsRow_below HOK.out (HX.out.trans (HB6.out.mono hx1))
              have hrow2 := row_dir hrow1 HA.out.now HT2.out
              have hrow4 := row_dir hrow2 HK2.out HT4.out
              refine ⟨k + 1, by omega, by go_num, ⟨{ Lk with addr := Lk.addr ++ [g], vals := Lk.vals ++ [.slice a5 n c5] }, ?_, ?_⟩, hB4.setCell (hfl pn (.inr (.inr rfl))) _, ?_⟩
              · rw [← hEQ, ← HSU.out]; exact hD5
              · rintro j (h | h | h | h | ⟨v, h, hv⟩ | h | h)
                · rw [h]; exact hpnq
                · exact HFK.out _ (.inr (.inl h))
                · exact HFK.out _ (.inr (.inr (.inl h)))
                · rcases List.mem_append.1 h with h | h
                  · exact HFK.out _ (.inr (.inr (.inr (.inl h))))
                  · simp at h; subst h; exact hgq
                · rcases List.mem_append.1 h with h | h
                  · exact HFK.out _ (.inr (.inr (.inr (.inr (.inl ⟨v, h, hv⟩)))))
                  · simp at h; subst h
                    have := (HO5.out.lt j hv).1; omega
                · exact HFK.out _ (.inr (.inr (.inr (.inr (.inr (.inl h))))))
                · exact HFK.out _ (.inr (.inr (.inr (.inr (.inr (.inr h))))))
              · exact ownsRow_keep hrow4 fun j hj => Below.heap_setCell _ _ _ j (fun e => own_blk_ne hrow4 HD4'.out.head (by decide) (by rw [hj]; exact congrArg some e))
            case measure => simp [intOf]; omega
        · have hkm : k = m := by omega
          have hD6 : DrvAt wr pn (S.crashAt D cuts m) Lk := by rw [← hkm]; exact HDK.out
          have hEQ : Hid (S.crash dirs cuts = S.crashAt D cuts m) := Lib.hid (by unfold Drv.crash; rw [← HNP.out, ← HDD.out, ← HM.out])
          have hpw : Blk wr p 138 #[.int .i64 S.room, .int .i64 S.used, .map (some L.nowM), .map (some L.keptM), L.pv] := (HBK.out.block _ hplq).trans HDQ.out.head
          have n0 : wr.cell? ⟨pn, 0, none⟩ = some (.int .i64 S.room) := hD6.head.cell 0
          have n1 : wr.cell? ⟨pn, 1, none⟩ = some (.int .i64 (S.crashAt D cuts m).used) := hD6.head.cell 1
          have n2 : wr.cell? ⟨pn, 2, none⟩ = some (.map (some Lk.nowM)) := hD6.head.cell 2
          have n3 : wr.cell? ⟨pn, 3, none⟩ = some (.map (some Lk.keptM)) := hD6.head.cell 3
          have n4 : wr.cell? ⟨pn, 4, none⟩ = some Lk.pv := hD6.head.cell 4
          have p0 : wr.cell? ⟨p, 0, none⟩ = some (.int .i64 S.room) := hpw.cell 0
          have p1 : wr.cell? ⟨p, 1, none⟩ = some (.int .i64 S.used) := hpw.cell 1
          have p2 : wr.cell? ⟨p, 2, none⟩ = some (.map (some L.nowM)) := hpw.cell 2
          have p3 : wr.cell? ⟨p, 3, none⟩ = some (.map (some L.keptM)) := hpw.cell 3
          have p4 : wr.cell? ⟨p, 4, none⟩ = some L.pv := hpw.cell 4
          have pf : ∀ j, wr.frozen? ⟨p, j, none⟩ = false := hpw.frozen
          obtain ⟨av, cv, hpv, _⟩ := own_shape hD6.pend
          rw [hpv] at n4
          obtain ⟨us, hus⟩ : ∃ us, us = (S.crashAt D cuts m).used := ⟨_, rfl⟩
          rw [← hus] at n1
          have HUS := Lib.hid hus
          have HPV := Lib.hid hpv
          have HD6 := Lib.hid hD6
          have HPW := Lib.hid hpw
          clear hpv hD6 hpw hkm hus
          go_wp2
          go_ret
          have hFp : F p := HF.out p (.inl rfl)
          have hFk : F L.keptM := HF.out _ (.inr (.inr (.inl rfl)))
          have htp : Touch (· = p) wr (((((wr.setCell ⟨p, 0, none⟩ (.int .i64 S.room)).setCell ⟨p, 1, none⟩ (.int .i64 us)).setCell ⟨p, 2, none⟩ (.map (some Lk.nowM))).setCell ⟨p, 3, none⟩ (.map (some Lk.keptM))).setCell ⟨p, 4, none⟩ (.slice av (S.crashAt D cuts m).pending.length cv)) :=
            (((((Touch.refl (· = p) wr).set (p := ⟨p, 0, none⟩) rfl _).set (p := ⟨p, 1, none⟩) rfl _).set (p := ⟨p, 2, none⟩) rfl _).set (p := ⟨p, 3, none⟩) rfl _).set (p := ⟨p, 4, none⟩) rfl _
          have hbl : Blk (((((wr.setCell ⟨p, 0, none⟩ (.int .i64 S.room)).setCell ⟨p, 1, none⟩ (.int .i64 us)).setCell ⟨p, 2, none⟩ (.map (some Lk.nowM))).setCell ⟨p, 3, none⟩ (.map (some Lk.keptM))).setCell ⟨p, 4, none⟩ (.slice av (S.crashAt D cuts m).pending.length cv)) p 138 #[.int .i64 (S.crashAt D cuts m).room, .int .i64 (S.crashAt D cuts m).used, .map (some Lk.nowM), .map (some Lk.keptM), Lk.pv] := by
            rw [HPV.out, ← HUS.out]
            exact ((((HPW.out.set_ 0 (.int .i64 S.room)).set_ 1 (.int .i64 us)).set_ 2 (.map (some Lk.nowM))).set_ 3 (.map (some Lk.keptM))).set_ 4 (.slice av (S.crashAt D cuts m).pending.length cv)
          have hmv := HD6.out.moveTo HPW.out htp hbl
          have tW : Touch F w W := Touch.of_below HBW.out
          have tq : Touch F w wq := tW.trans (HTR.out.mono fun j _ hj => by rw [hj]; exact .inl hFk)
          have tr : Touch F w wr := tq.trans (Touch.of_below HBK.out)
          refine ⟨rfl, ⟨_, Lk, rfl, by rw [hEQ.out]; exact hmv, fun j hj => ?_⟩, tr.trans (htp.mono fun j _ hj => by rw [hj]; exact .inl hFp)⟩
          rcases hj with h | h | h | h | h | h | h
          · rw [h]; exact .inl hFp
          all_goals
            have hj2 : Lk.foot pn j := by first | exact .inr (.inl h) | exact .inr (.inr (.inl h)) | exact .inr (.inr (.inr (.inl h))) | exact .inr (.inr (.inr (.inr (.inl h)))) | exact .inr (.inr (.inr (.inr (.inr (.inl h))))) | exact .inr (.inr (.inr (.inr (.inr (.inr h)))))
            have h1 := HFK.out j hj2
            have h2 := HD6.out.foot_lt hj2
            refine .inr ⟨by omega, ?_⟩
            rw [size_set, size_set, size_set, size_set, size_set]; exact h2

theorem wipe_nil (w : World) : Calls Tryz.prog 97 #[.pointer none] w fun e w' => e = .returned (.int .i64 1) ∧ w = w' := by
  go_enter Tryz.func97, Tryz.ntmps97
  go_wp2
  go_ret
  exact ⟨rfl, rfl⟩

set_option maxHeartbeats 1000000 in
theorem wipe_any (p : Nat) (S : Drv) (F : Nat → Prop) (w : World) (hd : Dr w p S F) (hrm : S.room ≤ 1073741824) :
    Calls Tryz.prog 97 #[.pointer (some ⟨p, 0, none⟩)] w fun e w' =>
      e = .returned (.int .i64 0) ∧ Dr w' p (Drv.new S.room) (grow F w w') ∧ Touch F w w' := by
  obtain ⟨addr, L, hL, hD, hF⟩ := hd
  have q0 : w.cell? ⟨p, 0, none⟩ = some (.int .i64 S.room) := hD.head.cell 0
  have hpl := hD.head.lt
  have HF := Lib.hid hF
  have HD := Lib.hid hD
  clear hL hD hF
  go_enter Tryz.func97, Tryz.ntmps97
  go_wp2_with fail
  refine (new_good S.room w (by omega) (by omega)).mono ?_
  rintro e wr ⟨rfl, hw3⟩
  obtain ⟨Ln, _, hDn, hFn⟩ := dr_new w S.room
  rw [← hw3] at hDn
  have hB3 : Below w.heap.size w wr := by rw [hw3]; exact (((Below.refl _ _).alloc (Nat.le_refl _) _).alloc (by simp) _).alloc (by simp; omega) _
  obtain ⟨pn, hpn⟩ : ∃ pn, pn = w.heap.size + 2 := ⟨_, rfl⟩
  rw [← hpn] at hDn hFn ⊢
  have hpw : Blk wr p 138 #[.int .i64 S.room, .int .i64 S.used, .map (some L.nowM), .map (some L.keptM), L.pv] := (hB3.block _ hpl).trans HD.out.head
  have n0 : wr.cell? ⟨pn, 0, none⟩ = some (.int .i64 S.room) := hDn.head.cell 0
  have n1 : wr.cell? ⟨pn, 1, none⟩ = some (.int .i64 0) := hDn.head.cell 1
  have n2 : wr.cell? ⟨pn, 2, none⟩ = some (.map (some Ln.nowM)) := hDn.head.cell 2
  have n3 : wr.cell? ⟨pn, 3, none⟩ = some (.map (some Ln.keptM)) := hDn.head.cell 3
  have n4 : wr.cell? ⟨pn, 4, none⟩ = some Ln.pv := hDn.head.cell 4
  have p0 : wr.cell? ⟨p, 0, none⟩ = some (.int .i64 S.room) := hpw.cell 0
  have p1 : wr.cell? ⟨p, 1, none⟩ = some (.int .i64 S.used) := hpw.cell 1
  have p2 : wr.cell? ⟨p, 2, none⟩ = some (.map (some L.nowM)) := hpw.cell 2
  have p3 : wr.cell? ⟨p, 3, none⟩ = some (.map (some L.keptM)) := hpw.cell 3
  have p4 : wr.cell? ⟨p, 4, none⟩ = some L.pv := hpw.cell 4
  have pf : ∀ j, wr.frozen? ⟨p, j, none⟩ = false := hpw.frozen
  obtain ⟨av, cv, hpv, _⟩ := own_shape hDn.pend
  rw [hpv] at n4
  have HPV := Lib.hid hpv
  have HDN := Lib.hid hDn
  have HFN := Lib.hid hFn
  have HPW := Lib.hid hpw
  have HB3 := Lib.hid hB3
  clear hpv hDn hpw hFn hw3 hpn hB3 q0
  go_wp2
  go_ret
  have hFp : F p := HF.out p (.inl rfl)
  have htp : Touch (· = p) wr (((((wr.setCell ⟨p, 0, none⟩ (.int .i64 S.room)).setCell ⟨p, 1, none⟩ (.int .i64 0)).setCell ⟨p, 2, none⟩ (.map (some Ln.nowM))).setCell ⟨p, 3, none⟩ (.map (some Ln.keptM))).setCell ⟨p, 4, none⟩ (.slice av (Drv.new S.room).pending.length cv)) :=
    (((((Touch.refl (· = p) wr).set (p := ⟨p, 0, none⟩) rfl _).set (p := ⟨p, 1, none⟩) rfl _).set (p := ⟨p, 2, none⟩) rfl _).set (p := ⟨p, 3, none⟩) rfl _).set (p := ⟨p, 4, none⟩) rfl _
  have hbl : Blk (((((wr.setCell ⟨p, 0, none⟩ (.int .i64 S.room)).setCell ⟨p, 1, none⟩ (.int .i64 0)).setCell ⟨p, 2, none⟩ (.map (some Ln.nowM))).setCell ⟨p, 3, none⟩ (.map (some Ln.keptM))).setCell ⟨p, 4, none⟩ (.slice av (Drv.new S.room).pending.length cv)) p 138 #[.int .i64 (Drv.new S.room).room, .int .i64 (Drv.new S.room).used, .map (some Ln.nowM), .map (some Ln.keptM), Ln.pv] := by
    rw [HPV.out]
    exact ((((HPW.out.set_ 0 (.int .i64 S.room)).set_ 1 (.int .i64 0)).set_ 2 (.map (some Ln.nowM))).set_ 3 (.map (some Ln.keptM))).set_ 4 (.slice av (Drv.new S.room).pending.length cv)
  have hmv := HDN.out.moveTo HPW.out htp hbl
  have tr : Touch F w wr := Touch.of_below HB3.out
  refine ⟨rfl, ⟨_, Ln, rfl, hmv, fun j hj => ?_⟩, tr.trans (htp.mono fun j _ hj => by rw [hj]; exact .inl hFp)⟩
  rcases hj with h | h | h | h | h | h | h
  · rw [h]; exact .inl hFp
  all_goals
    have hj2 : Ln.foot pn j := by first | exact .inr (.inl h) | exact .inr (.inr (.inl h)) | exact .inr (.inr (.inr (.inl h))) | exact .inr (.inr (.inr (.inr (.inl h)))) | exact .inr (.inr (.inr (.inr (.inr (.inl h))))) | exact .inr (.inr (.inr (.inr (.inr (.inr h)))))
    have h1 := HFN.out j hj2
    have h2 := HDN.out.foot_lt hj2
    refine .inr ⟨by omega, ?_⟩
    rw [size_set, size_set, size_set, size_set, size_set]; exact h2
end Go.Proofs.YtcbebefdbdppdaaGreat

/- A loss of power, of the pure drive. No program in sight.; How drives in memory turn by a loss of power: the kept names, a body more, one drive's struct over another's; a map's new entry in two steps.; Contracts of the drive: Crash, Wipe. -/
import Derived.Test.YtcbebefdbdppdaaGreatM10
import Derived.IntWalk
import Derived.Deep.RegionHeld3
import Derived.Deep.DrawnRows
namespace Go.Proofs.YtcbebefdbdppdaaGreat
open Go.RowKit Go.Maps Go.Sort
namespace Drv
def crashK (S : Drv) (dirs : List Bool) : Nat → Dir
  | 0 => S.kept
  | k + 1 => if dirs.getD k false = true then applyC (S.crashK dirs k) (S.pending.getD k []) else S.crashK dirs k
def cutN (S : Drv) (D : Dir) (cuts : List Int) (j : Nat) : Nat :=
  (S.at_ D ((dnames D).getD j [])).safe + (min (max (cuts.getD j 0) 0) (((S.at_ D ((dnames D).getD j [])).data.length : Int) - (S.at_ D ((dnames D).getD j [])).safe)).toNat
def crashBody (S : Drv) (D : Dir) (cuts : List Int) (j : Nat) : Body := ⟨(S.at_ D ((dnames D).getD j [])).data.take (S.cutN D cuts j), S.cutN D cuts j⟩
def crashDir (D : Dir) : Nat → Dir
  | 0 => .map []
  | k + 1 => (crashDir D k).put (key ((dnames D).getD k [])) (num k)
def crashSum (S : Drv) (D : Dir) (cuts : List Int) : Nat → Nat
  | 0 => 0
  | k + 1 => S.crashSum D cuts k + S.cutN D cuts k
def crashAt (S : Drv) (D : Dir) (cuts : List Int) (k : Nat) : Drv :=
  ⟨S.room, S.crashSum D cuts k, (List.range k).map (S.crashBody D cuts), crashDir D k, crashDir D k, []⟩
def crash (S : Drv) (dirs : List Bool) (cuts : List Int) : Drv := S.crashAt (S.crashK dirs S.pending.length) cuts (dnames (S.crashK dirs S.pending.length)).length
end Drv
theorem dnames_perm (D : Dir) : (dnames D).Perm (strKeys D) := List.mergeSort_perm _ _
theorem mem_dnames {D : Dir} (hk : NmKeys D) (ht : Tidy D) {s : Nm} (h : s ∈ dnames D) : has D (key s) = true := by
  obtain ⟨es, rfl, _⟩ := ht
  rw [(dnames_perm _).mem_iff] at h
  obtain ⟨p, hp, rfl⟩ := List.mem_map.1 h
  obtain ⟨s, hs⟩ := hk p hp
  rw [has_eq, List.any_eq_true]
  exact ⟨p, hp, by rw [hs]; simp [Lit.sameKey, strOf, key]⟩
theorem dnames_nodup {D : Dir} (hk : NmKeys D) (ht : Tidy D) : (dnames D).Nodup := by
  obtain ⟨es, rfl, hp⟩ := ht
  rw [(dnames_perm _).nodup_iff]
  show (es.map fun p => strOf p.1).Nodup
  rw [List.Nodup, List.pairwise_map]
  refine hp.imp_of_mem ?_
  intro a b ha hb hne e
  obtain ⟨s, hs⟩ := hk a ha
  obtain ⟨t, ht⟩ := hk b hb
  rw [hs, ht] at hne e
  have : s = t := e
  exact hne (by rw [this])
theorem crashDir_facts {D : Dir} (hk : NmKeys D) (ht : Tidy D) (hf : Full D) : ∀ k, k ≤ (dnames D).length →
    Tidy (Drv.crashDir D k) ∧ NmKeys (Drv.crashDir D k) ∧ Full (Drv.crashDir D k) ∧ size (Drv.crashDir D k) ≤ k ∧ (∀ s, has (Drv.crashDir D k) (key s) = true → s ∈ (dnames D).take k) ∧ (refs (Drv.crashDir D k)).Nodup ∧ (∀ i ∈ refs (Drv.crashDir D k), i < k) ∧ (refs (Drv.crashDir D k)).Perm (List.range k)
  | 0, _ => ⟨tidy_empty, fun p hp => by (cases hp), fun s h => by (cases h), Nat.le_refl _, fun s h => by (cases h), List.nodup_nil, fun i hi => by (cases hi), .refl _⟩
  | k + 1, hl => by
    obtain ⟨h1, h2, h3, h4, h5, h6, h7, h8⟩ := crashDir_facts hk ht hf k (by omega)
    have hkl : k < (dnames D).length := by omega
    have hg : (dnames D)[k]? = some ((dnames D).getD k []) := by rw [List.getElem?_eq_getElem hkl]; simp [List.getD, hkl]
    have hm : (dnames D).getD k [] ∈ dnames D := List.mem_of_getElem? hg
    have hnd := dnames_nodup hk ht
    have hnot : has (Drv.crashDir D k) (key ((dnames D).getD k [])) = false := by
      cases hh : has (Drv.crashDir D k) (key ((dnames D).getD k [])) with
      | false => rfl
      | true =>
        exfalso
        have := h5 _ hh
        obtain ⟨j, hj, e⟩ := List.getElem_of_mem this
        rw [List.length_take] at hj
        rw [List.getElem_take] at e
        have e2 : (dnames D)[k] = (dnames D).getD k [] := by simp [List.getD, hkl]
        rw [← e2] at e
        exact (List.pairwise_iff_getElem.1 hnd) j k (by omega) hkl (by omega) e
    have hlen := (hf _ (mem_dnames hk ht hm)).1
    have hp := refs_put h1 ((dnames D).getD k []) k
    rw [del_of_not_has hnot] at hp
    have hp2 : (refs (Drv.crashDir D (k + 1))).Perm (List.range (k + 1)) := by
      refine hp.trans ?_
      rw [List.range_succ]
      exact (h8.cons k).trans (List.perm_append_singleton _ _).symm
    refine ⟨h1.put (isKey _) _, h2.put h1 _ _, h3.put h1 hlen k, ?_, ?_, ?_, ?_, hp2⟩
    · have := size_put_le h1 ((dnames D).getD k []) (num k)
      show size ((Drv.crashDir D k).put _ _) ≤ k + 1
      omega
    · intro s hs
      rw [List.take_add_one, hg]
      by_cases e : s = (dnames D).getD k []
      · rw [e]; simp
      · rw [show Drv.crashDir D (k + 1) = (Drv.crashDir D k).put (key ((dnames D).getD k [])) (num k) from rfl, has_put_other (key_ne e)] at hs
        exact List.mem_append_left _ (h5 s hs)
    · exact hp2.nodup_iff.2 List.nodup_range
    · intro i hi
      exact List.mem_range.1 (hp2.mem_iff.1 hi)
theorem crashK_facts {S : Drv} {N : Nat} (h : S.Inv N) (dirs : List Bool) : ∀ k, k ≤ S.pending.length → Full (S.crashK dirs k) ∧ Tidy (S.crashK dirs k) ∧ NmKeys (S.crashK dirs k) ∧ size (S.crashK dirs k) ≤ size S.kept + ((S.pending.take k).map puts).sum
  | 0, _ => ⟨h.fkept, h.tkept, h.kkept, Nat.le_add_right _ _⟩
  | k + 1, hl => by
    obtain ⟨h1, h2, h3, h4⟩ := crashK_facts h dirs k (by omega)
    have hkl : k < S.pending.length := by omega
    have hg : S.pending[k]? = some (S.pending.getD k []) := by rw [List.getElem?_eq_getElem hkl]; simp [List.getD, hkl]
    have hm : S.pending.getD k [] ∈ S.pending := List.mem_of_getElem? hg
    have e : ((S.pending.take (k + 1)).map puts).sum = ((S.pending.take k).map puts).sum + puts (S.pending.getD k []) := by
      rw [List.take_add_one, hg]; simp
    rw [e]
    unfold Drv.crashK
    split
    · obtain ⟨a, b, c⟩ := applyC_keeps (S.pending.getD k []) h1 h2 (h.pok _ hm)
      exact ⟨a, b, h3.app _ h2, by omega⟩
    · exact ⟨h1, h2, h3, by omega⟩
end Go.Proofs.YtcbebefdbdppdaaGreat
namespace Go.Proofs.YtcbebefdbdppdaaGreat
open Go.RowKit Go.Maps Go.WideMaps
def boolV (b : Bool) : Value := .bool b
def intV (n : Int) : Value := .int .i64 n
section
variable {w w' w1 : World} {p : Nat} {S : Drv} {L : Lay}
theorem dir_blk_ne {addr : List Nat} {b g : Nat} {D : Dir} {t : TypeId} {cs : Array Value} (h1 : DirAt w addr b D) (h2 : Blk w g t cs) : g ≠ b := by
  rintro rfl
  obtain ⟨es, clock, h3, _⟩ := h1
  unfold Blk at h2; rw [h3] at h2; injection h2 with h2; cases h2
theorem dir_row_ne {addr : List Nat} {b : Nat} {D : Dir} {base s n : Nat} {e : TypeId} {v : Value} {xs : List Value} (h1 : DirAt w addr b D) (h2 : w.ownsRow base e s v n xs) : ∀ k, v.ownBlock = some k → k ≠ b := by
  intro k hk
  rcases h2.2 with ⟨rfl, _⟩ | ⟨g, cap, cur, rfl, _, hh, _⟩
  · simp [Value.ownBlock] at hk
  · have hg : g = k := by simpa [Value.ownBlock] using hk
    subst hg
    exact dir_blk_ne (t := e) (cs := cur) h1 hh
theorem row_dir {addr : List Nat} {b : Nat} {D : Dir} {base s n : Nat} {e : TypeId} {v : Value} {xs : List Value} (h2 : w.ownsRow base e s v n xs) (h1 : DirAt w addr b D) (ht : Touch (· = b) w w') : w'.ownsRow base e s v n xs :=
  ownsRow_keep h2 fun k hk => ht.block k (h2.lt k hk).2 (dir_row_ne h1 h2 k hk)
theorem DrvAt.setKeptD (h : DrvAt w p S L) {D : Dir} (hd : DirAt w' L.addr L.keptM D) (ht : Touch (· = L.keptM) w w') : DrvAt w' p { S with kept := D } L := by
  have far : ∀ k, L.foot p k → k ≠ L.keptM → w'.heap[k]? = w.heap[k]? := fun k hf hk => ht.block k (h.foot_lt hf) hk
  exact {
    head := (far _ (.inl rfl) (dir_blk_ne h.kept h.head)).trans h.head
    now := h.now.keep (far _ (.inr (.inl rfl)) h.ne)
    kept := hd
    ne := h.ne, nodup := h.nodup, la := h.la, lv := h.lv
    body := fun i hi => (far _ (.inr (.inr (.inr (.inl (getD_mem 0 (by rw [h.la]; exact hi)))))) (dir_blk_ne h.kept (h.body i hi))).trans (h.body i hi)
    data := fun i hi => row_dir (h.data i hi) h.kept ht
    rows := h.rows
    pend := row_dir h.pend h.kept ht
    li := h.li, pok := h.pok
    inner := fun j hj => (far _ (.inr (.inr (.inr (.inr (.inr (.inr (getD_mem 0 (by rw [h.li]; exact hj)))))))) (dir_blk_ne h.kept (h.inner j hj))).trans (h.inner j hj) }
theorem DrvAt.addBodyV (h : DrvAt w p S L) (hb : Below w.heap.size w w1) {g n : Nat} {v : Value} {bs : List UInt8} (hg : w.heap.size ≤ g) (hblk : Blk w1 g 151 #[v, .int .i64 n]) (hrow : w1.ownsRow w.heap.size 5 1 v bs.length (bs.map B8)) :
    DrvAt w1 p { S with bodies := S.bodies ++ [⟨bs, n⟩] } { L with addr := L.addr ++ [g], vals := L.vals ++ [v] } := by
  have h1 := h.keep (w' := w1) fun k hf => hb.block k (h.foot_lt hf)
  have alt : ∀ i, i < S.bodies.length → Lay.adr { L with addr := L.addr ++ [g], vals := L.vals ++ [v] } i = L.adr i := fun i hi => getD_snoc_lt (by rw [h.la]; exact hi)
  have aeq : Lay.adr { L with addr := L.addr ++ [g], vals := L.vals ++ [v] } S.bodies.length = g := by rw [← h.la]; exact getD_snoc_eq
  have vlt : ∀ i, i < S.bodies.length → Lay.val { L with addr := L.addr ++ [g], vals := L.vals ++ [v] } i = L.val i := fun i hi => getD_snoc_lt (by rw [h.lv]; exact hi)
  have veq : Lay.val { L with addr := L.addr ++ [g], vals := L.vals ++ [v] } S.bodies.length = v := by rw [← h.lv]; exact getD_snoc_eq
  have blt : ∀ i, i < S.bodies.length → Drv.body { S with bodies := S.bodies ++ [⟨bs, n⟩] } i = S.body i := fun i hi => getD_snoc_lt hi
  have beq : Drv.body { S with bodies := S.bodies ++ [⟨bs, n⟩] } S.bodies.length = ⟨bs, n⟩ := getD_snoc_eq
  have hlast : ∀ i, i < (S.bodies ++ [(⟨bs, n⟩ : Body)]).length → ¬ i < S.bodies.length → i = S.bodies.length := fun i hi hn => by simp at hi; omega
  exact {
    head := h1.head
    now := h1.now.more _
    kept := h1.kept.more _
    ne := h.ne
    nodup := by
      rw [List.nodup_append]
      refine ⟨h.nodup, by simp, fun a ha b hb' e => ?_⟩
      simp at hb'; subst hb'; subst e
      have := h.foot_lt (.inr (.inr (.inr (.inl ha))))
      omega
    la := by simp [h.la]
    lv := by simp [h.lv]
    body := fun i hi => by
      by_cases e : i < S.bodies.length
      · rw [alt i e, vlt i e, blt i e]; exact h1.body i e
      · have := hlast i hi e; subst this; rw [aeq, veq, beq]; exact hblk
    data := fun i hi => by
      unfold Drv.len
      by_cases e : i < S.bodies.length
      · rw [vlt i e, blt i e]; exact h1.data i e
      · have := hlast i hi e; subst this; rw [veq, beq]; exact ownsRow_base_a hrow (Nat.zero_le _)
    rows := fun a b ha hb' hab => by
      have old : ∀ i, i < S.bodies.length → (L.val i).ownBlock = none ∨ (L.val i).ownBlock ≠ v.ownBlock := fun i hi => by
        cases hk : (L.val i).ownBlock with
        | none => exact .inl rfl
        | some k =>
          refine .inr fun e => ?_
          have k1 := ((h.data i hi).lt k hk).2
          have k2 := (hrow.lt k e.symm).1
          omega
      by_cases ea : a < S.bodies.length
      · rw [vlt a ea]
        by_cases eb : b < S.bodies.length
        · rw [vlt b eb]; exact h.rows a b ea eb hab
        · have := hlast b hb' eb; subst this; rw [veq]; exact old a ea
      · have := hlast a ha ea; subst this; rw [veq]
        by_cases eb : b < S.bodies.length
        · rw [vlt b eb]
          rcases old b eb with h2 | h2
          · rw [h2]
            cases v.ownBlock with
            | none => exact .inl rfl
            | some k => exact .inr (by simp)
          · exact .inr (Ne.symm h2)
        · have := hlast b hb' eb; exact absurd this.symm hab
    pend := h1.pend
    li := h.li
    pok := fun c hc => okC_more (h.pok c hc) _
    inner := fun j hj => by
      have hj' : j < S.pending.length := hj
      have hm : S.pending.getD j [] ∈ S.pending := getD_mem _ hj'
      show Blk _ (L.inr j) _ (chgCells (L.addr ++ [g]) (S.pending.getD j [])).toArray
      rw [chgCells_more _ _ _ (h.pok _ hm)]; exact h1.inner j hj' }
end
theorem modify_last {α : Type} (es : Array α) (x : α) (f : α → α) : (es.push x).modify es.size f = es.push (f x) := by
  apply Array.ext
  · simp
  · intro i h1 h2
    simp only [Array.getElem_modify, Array.getElem_push]
    by_cases h : i < es.size
    · simp [h, Nat.ne_of_gt h]
    · have : i = es.size := by simp at h1; omega
      subst this
      simp
theorem DirAt.entry {w : World} {addr : List Nat} {b : Nat} {D : Dir} (h : DirAt w addr b D) (hn : size D < maxLen) (s : ByteArray) (hnew : has D (key s.data.toList) = false) (hd : addr.Nodup) (hs : s.size ≤ maxLen) (i : Nat) (hi : i < addr.length) :
    ∃ (O1 O2 : Obj) (st : Int),
      (∀ W : World, W.heap[b]? = w.heap[b]? → (Instr.mapEntry 135 (.map (some b)) (.string s)).run Tryz.prog W = .ok (.tuple #[.pointer none, .int .i64 st]) (ChangeMaps.setBlock W b O1)) ∧
      (∀ W : World, W.heap[b]? = some O1 → (Instr.entryStore 135 (.map (some b)) (.int .i64 st) (ptrO addr (some i))).run Tryz.prog W = .ok () (ChangeMaps.setBlock W b O2)) ∧
      (∀ W : World, W.heap[b]? = some O2 → DirAt W addr b (D.put (key s.data.toList) (num i))) := by
  obtain ⟨w2, hrun2, hd2, hg2, hs2⟩ := h.put hn hd s hs i hi
  obtain ⟨es, clock, hb, F, hsz, hD⟩ := h
  have hkey : keyOf Tryz.prog 9 (.string s) = some (key s.data.toList) := keyOf_string_mk Tryz.underlying9 hs
  rcases Maps.fit_look false dirKeyed Tryz.underlying135 (nilBody w) hb F hkey with ⟨_, hno, _⟩ | ⟨e0, y, _, _, _, _, hat, _⟩
  · rcases dirKeyed.find w hkey es.toList F.keys with ⟨h1, _⟩ | ⟨j, e0, _, h2, h3⟩
    · have hup : (Instr.mapUpdate 135 (.map (some b)) (.string s) (ptrO addr (some i))).run Tryz.prog w = .ok () (ChangeMaps.setBlock w b (.map (es.push ⟨.string s, ptrO addr (some i), clock⟩) (clock + 1))) := by
        simp [Instr.mapUpdate, run_underlying Tryz.underlying135, MapKept.run_getObj_map hb, dirKeyed.check w false hkey, h1, MapKept.run_setObj_map _ hb, Result.andThen, ChangeMaps.setBlock]
      rw [hup] at hrun2
      injection hrun2 with _ e2
      refine ⟨.map (es.push ⟨.string s, .pointer none, clock⟩) (clock + 1), .map (es.push ⟨.string s, ptrO addr (some i), clock⟩) (clock + 1), clock, fun W hW => ?_, fun W hW => ?_, fun W hW => ?_⟩
      · have hbW : W.heap[b]? = some (.map es clock) := hW.trans hb
        have h1W : (Instr.findKey 9 (.string s) es.toList).run Tryz.prog W = .ok none W := by
          rcases dirKeyed.find W hkey es.toList F.keys with ⟨g1, _⟩ | ⟨j, e0, _, g2, g3⟩
          · exact g1
          · exact absurd g3 (hno e0 (List.mem_of_getElem? g2))
        simp [Instr.mapEntry, run_underlying Tryz.underlying135, MapKept.run_getObj_map hbW, dirKeyed.check W false hkey, h1W, nilBody W, MapKept.run_setObj_map _ hbW, Result.andThen, ChangeMaps.setBlock, goInt]
      · have hst : ∀ x ∈ es.toList, x.born < clock := F.stamped.1
        have hfi : (es.push ⟨.string s, .pointer none, clock⟩).findIdx? (fun e : MapEntry => (e.born : Int) == (clock : Int)) = some es.size := by
          rw [Array.findIdx?_push]
          have : es.findIdx? (fun e : MapEntry => (e.born : Int) == (clock : Int)) = none := by
            rw [Array.findIdx?_eq_none_iff]
            intro x hx
            have := hst x (by simpa using hx)
            simp; omega
          rw [this]; simp
        simp only [Instr.entryStore, Sem.run_bind, MapKept.run_getObj_map hW, Result.andThen_ok, asInt, asIntOf, Sem.run_pure, hfi]
        rw [MapKept.run_setObj_map _ hW, modify_last]
        rfl
      · refine hd2.keep ?_
        rw [hW, ← e2]
        exact (by
          have hlt : b < w.heap.size := (Array.getElem?_eq_some_iff.1 hb).1
          simp [ChangeMaps.setBlock, hlt])
    · exact absurd h3 (hno e0 (List.mem_of_getElem? h2))
  · exfalso
    rw [← hD] at hat
    have := has_true_of_atKey hat
    rw [hnew] at this
    cases this
end Go.Proofs.YtcbebefdbdppdaaGreat
namespace Go.Proofs.YtcbebefdbdppdaaGreat
open Go.RowKit Go.Maps Go.WideMaps
attribute [local go_sem ↓] Go.wp_at_zero Go.wp_at_succ
theorem Touch.set {G : Nat → Prop} {a b : World} (h : Touch G a b) {p : Addr} (hp : G p.block) (u : Value) : Touch G a (b.setCell p u) :=
  ⟨h.os, h.tape, h.output, by have := h.size; simpa [World.setCell] using this, fun k hk hn => (Below.heap_setCell b p u k (fun e => hn (by rw [e]; exact hp))).trans (h.block k hk hn)⟩
theorem size_set (w : World) (p : Addr) (u : Value) : (w.setCell p u).heap.size = w.heap.size := by simp [World.setCell]
theorem setBlock_same (W : World) {b : Nat} (O : Obj) (h : b < W.heap.size) : (ChangeMaps.setBlock W b O).heap[b]? = some O := by simp [ChangeMaps.setBlock, h]
theorem setBlock_other (W : World) {b k : Nat} (O : Obj) (h : k ≠ b) : (ChangeMaps.setBlock W b O).heap[k]? = W.heap[k]? := by simp [ChangeMaps.setBlock, Ne.symm h]
theorem setBlock_size (W : World) (b : Nat) (O : Obj) : (ChangeMaps.setBlock W b O).heap.size = W.heap.size := by simp [ChangeMaps.setBlock]
theorem setBlock_touch (W : World) (b : Nat) (O : Obj) : Touch (· = b) W (ChangeMaps.setBlock W b O) := ⟨rfl, rfl, rfl, by rw [setBlock_size]; exact Nat.le_refl _, fun k _ hk => setBlock_other W O hk⟩
end Go.Proofs.YtcbebefdbdppdaaGreat

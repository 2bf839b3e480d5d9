/- How drives in memory turn by a loss of power: the kept names, a body more, one drive's struct over another's; a map's new entry in two steps. -/
import Derived.Test.YtdmcjomcbhdcbaaCp
namespace Go.Proofs.Ytdmcjomcbhdcbaa
open Go.RowKit Go.Maps Go.WideMaps

def boolV (b : Bool) : Value := .bool b
def intV (n : Int) : Value := .int .i64 n

section
variable {w w' w1 : World} {p : Nat} {S : Drv} {L : Lay}
theorem dir_blk_ne {addr : List Nat} {b g : Nat} {D : Dir} {t : TypeId} {cs : Array Value} (h1 : DirAt w addr b D) (h2 : Blk w g t cs) : g ≠ b := by
  rintro rfl
  obtain ⟨es, clock, h3, _⟩ := h1
  unfold Blk at h2; rw [h3] at h2; injection h2 with h2; cases h2
theorem dir_row_ne {addr : List Nat} {b : Nat} {D : Dir} {base s n : Nat} {e : TypeId} {v : Value} {xs : List Value} (h1 : DirAt w addr b D) (h2 : w.ownsRow base e s v n xs) : ∀ k, v.ownBlock = some k → k ≠ b := by
  intro k hk
  rcases h2.2 with ⟨rfl, _⟩ | ⟨g, cap, cur, rfl, _, hh, _⟩
  · simp [Value.ownBlock] at hk
  · have hg : g = k := by simpa [Value.ownBlock] using hk
    subst hg
    exact dir_blk_ne (t := e) (cs := cur) h1 hh
theorem row_dir {addr : List Nat} {b : Nat} {D : Dir} {base s n : Nat} {e : TypeId} {v : Value} {xs : List Value} (h2 : w.ownsRow base e s v n xs) (h1 : DirAt w addr b D) (ht : Touch (· = b) w w') : w'.ownsRow base e s v n xs :=
  ownsRow_keep h2 fun k hk => ht.block k (h2.lt k hk).2 (dir_row_ne h1 h2 k hk)

theorem DrvAt.setKeptD (h : DrvAt w p S L) {D : Dir} (hd : DirAt w' L.addr L.keptM D) (ht : Touch (· = L.keptM) w w') : DrvAt w' p { S with kept := D } L := by
  have far : ∀ k, L.foot p k → k ≠ L.keptM → w'.heap[k]? = w.heap[k]? := fun k hf hk => ht.block k (h.foot_lt hf) hk
  exact {
    head := (far _ (.inl rfl) (dir_blk_ne h.kept h.head)).trans h.head
    now := h.now.keep (far _ (.inr (.inl rfl)) h.ne)
    kept := hd
    ne := h.ne, nodup := h.nodup, la := h.la, lv := h.lv
    body := fun i hi => (far _ (.inr (.inr (.inr (.inl (getD_mem 0 (by rw [h.la]; exact hi)))))) (dir_blk_ne h.kept (h.body i hi))).trans (h.body i hi)
    data := fun i hi => row_dir (h.data i hi) h.kept ht
    rows := h.rows
    pend := row_dir h.pend h.kept ht
    li := h.li, pok := h.pok
    inner := fun j hj => (far _ (.inr (.inr (.inr (.inr (.inr (.inr (getD_mem 0 (by rw [h.li]; exact hj)))))))) (dir_blk_ne h.kept (h.inner j hj))).trans (h.inner j hj) }

/-- A body more, in new blocks. -/
theorem DrvAt.addBodyV (h : DrvAt w p S L) (hb : Below w.heap.size w w1) {g n : Nat} {v : Value} {bs : List UInt8} (hg : w.heap.size ≤ g) (hblk : Blk w1 g 113 #[v, .int .i64 n]) (hrow : w1.ownsRow w.heap.size 5 1 v bs.length (bs.map B8)) :
    DrvAt w1 p { S with bodies := S.bodies ++ [⟨bs, n⟩] } { L with addr := L.addr ++ [g], vals := L.vals ++ [v] } := by
  have h1 := h.keep (w' := w1) fun k hf => hb.block k (h.foot_lt hf)
  have alt : ∀ i, i < S.bodies.length → Lay.adr { L with addr := L.addr ++ [g], vals := L.vals ++ [v] } i = L.adr i := fun i hi => getD_snoc_lt (by rw [h.la]; exact hi)
  have aeq : Lay.adr { L with addr := L.addr ++ [g], vals := L.vals ++ [v] } S.bodies.length = g := by rw [← h.la]; exact getD_snoc_eq
  have vlt : ∀ i, i < S.bodies.length → Lay.val { L with addr := L.addr ++ [g], vals := L.vals ++ [v] } i = L.val i := fun i hi => getD_snoc_lt (by rw [h.lv]; exact hi)
  have veq : Lay.val { L with addr := L.addr ++ [g], vals := L.vals ++ [v] } S.bodies.length = v := by rw [← h.lv]; exact getD_snoc_eq
  have blt : ∀ i, i < S.bodies.length → Drv.body { S with bodies := S.bodies ++ [⟨bs, n⟩] } i = S.body i := fun i hi => getD_snoc_lt hi
  have beq : Drv.body { S with bodies := S.bodies ++ [⟨bs, n⟩] } S.bodies.length = ⟨bs, n⟩ := getD_snoc_eq
  have hlast : ∀ i, i < (S.bodies ++ [(⟨bs, n⟩ : Body)]).length → ¬ i < S.bodies.length → i = S.bodies.length := fun i hi hn => by simp at hi; omega
  exact {
    head := h1.head
    now := h1.now.more _
    kept := h1.kept.more _
    ne := h.ne
    nodup := by
      rw [List.nodup_append]
      refine ⟨h.nodup, by simp, fun a ha b hb' e => ?_⟩
      simp at hb'; subst hb'; subst e
      have := h.foot_lt (.inr (.inr (.inr (.inl ha))))
      omega
    la := by simp [h.la]
    lv := by simp [h.lv]
    body := fun i hi => by
      by_cases e : i < S.bodies.length
      · rw [alt i e, vlt i e, blt i e]; exact h1.body i e
      · have := hlast i hi e; subst this; rw [aeq, veq, beq]; exact hblk
    data := fun i hi => by
      unfold Drv.len
      by_cases e : i < S.bodies.length
      · rw [vlt i e, blt i e]; exact h1.data i e
      · have := hlast i hi e; subst this; rw [veq, beq]; exact ownsRow_base_a hrow (Nat.zero_le _)
    rows := fun a b ha hb' hab => by
      have old : ∀ i, i < S.bodies.length → (L.val i).ownBlock = none ∨ (L.val i).ownBlock ≠ v.ownBlock := fun i hi => by
        cases hk : (L.val i).ownBlock with
        | none => exact .inl rfl
        | some k =>
          refine .inr fun e => ?_
          have k1 := ((h.data i hi).lt k hk).2
          have k2 := (hrow.lt k e.symm).1
          omega
      by_cases ea : a < S.bodies.length
      · rw [vlt a ea]
        by_cases eb : b < S.bodies.length
        · rw [vlt b eb]; exact h.rows a b ea eb hab
        · have := hlast b hb' eb; subst this; rw [veq]; exact old a ea
      · have := hlast a ha ea; subst this; rw [veq]
        by_cases eb : b < S.bodies.length
        · rw [vlt b eb]
          rcases old b eb with h2 | h2
          · rw [h2]
            cases v.ownBlock with
            | none => exact .inl rfl
            | some k => exact .inr (by simp)
          · exact .inr (Ne.symm h2)
        · have := hlast b hb' eb; exact absurd this.symm hab
    pend := h1.pend
    li := h.li
    pok := fun c hc => okC_more (h.pok c hc) _
    inner := fun j hj => by
      have hj' : j < S.pending.length := hj
      have hm : S.pending.getD j [] ∈ S.pending := getD_mem _ hj'
      show Blk _ (L.inr j) _ (chgCells (L.addr ++ [g]) (S.pending.getD j [])).toArray
      rw [chgCells_more _ _ _ (h.pok _ hm)]; exact h1.inner j hj' }

/-- A drive's struct is written over another's. -/
theorem DrvAt.moveTo {X : World} {pn : Nat} (h : DrvAt w pn S L) {c0 : Array Value} (hp : Blk w p 90 c0) (hX : Touch (· = p) w X)
    (hblk : Blk X p 90 #[.int .i64 S.room, .int .i64 S.used, .map (some L.nowM), .map (some L.keptM), L.pv]) : DrvAt X p S L := by
  have far : ∀ k, k < w.heap.size → k ≠ p → X.heap[k]? = w.heap[k]? := fun k hk hn => hX.block k hk hn
  have fd : ∀ {b : Nat} {D : Dir}, DirAt w L.addr b D → DirAt X L.addr b D := fun h1 => h1.keep (far _ h1.lt (fun e => dir_blk_ne h1 hp e.symm))
  have fb : ∀ {g : Nat} {t : TypeId} {cs : Array Value}, Blk w g t cs → t ≠ 90 → Blk X g t cs := fun h1 hne => (far _ h1.lt (h1.ne_ hp hne)).trans h1
  have fr : ∀ {base s n : Nat} {e : TypeId} {v : Value} {xs : List Value}, w.ownsRow base e s v n xs → e ≠ 90 → X.ownsRow base e s v n xs := fun h1 hne =>
    ownsRow_keep h1 fun k hk => far k (h1.lt k hk).2 (fun e' => own_blk_ne h1 hp hne (by rw [hk, e']))
  exact {
    head := hblk
    now := fd h.now
    kept := fd h.kept
    ne := h.ne, nodup := h.nodup, la := h.la, lv := h.lv
    body := fun i hi => fb (h.body i hi) (by decide)
    data := fun i hi => fr (h.data i hi) (by decide)
    rows := h.rows
    pend := fr h.pend (by decide)
    li := h.li, pok := h.pok
    inner := fun j hj => fb (h.inner j hj) (by decide) }
end

theorem modify_last {α : Type} (es : Array α) (x : α) (f : α → α) : (es.push x).modify es.size f = es.push (f x) := by
  apply Array.ext
  · simp
  · intro i h1 h2
    simp only [Array.getElem_modify, Array.getElem_push]
    by_cases h : i < es.size
    · simp [h, Nat.ne_of_gt h]
    · have : i = es.size := by simp at h1; omega
      subst this
      simp

/-- A new entry of a directory in two steps: the entry is made, then its element is laid. -/
theorem DirAt.entry {w : World} {addr : List Nat} {b : Nat} {D : Dir} (h : DirAt w addr b D) (hn : size D < maxLen) (s : ByteArray) (hnew : has D (key s.data.toList) = false) (hd : addr.Nodup) (hs : s.size ≤ maxLen) (i : Nat) (hi : i < addr.length) :
    ∃ (O1 O2 : Obj) (st : Int),
      (∀ W : World, W.heap[b]? = w.heap[b]? → (Instr.mapEntry 87 (.map (some b)) (.string s)).run Try.prog W = .ok (.tuple #[.pointer none, .int .i64 st]) (ChangeMaps.setBlock W b O1)) ∧
      (∀ W : World, W.heap[b]? = some O1 → (Instr.entryStore 87 (.map (some b)) (.int .i64 st) (ptrO addr (some i))).run Try.prog W = .ok () (ChangeMaps.setBlock W b O2)) ∧
      (∀ W : World, W.heap[b]? = some O2 → DirAt W addr b (D.put (key s.data.toList) (num i))) := by
  obtain ⟨w2, hrun2, hd2, hg2, hs2⟩ := h.put hn hd s hs i hi
  obtain ⟨es, clock, hb, F, hsz, hD⟩ := h
  have hkey : keyOf Try.prog 9 (.string s) = some (key s.data.toList) := keyOf_string_mk Try.underlying9 hs
  rcases Maps.fit_look false dirKeyed Try.underlying87 (nilBody w) hb F hkey with ⟨_, hno, _⟩ | ⟨e0, y, _, _, _, _, hat, _⟩
  · rcases dirKeyed.find w hkey es.toList F.keys with ⟨h1, _⟩ | ⟨j, e0, _, h2, h3⟩
    · have hup : (Instr.mapUpdate 87 (.map (some b)) (.string s) (ptrO addr (some i))).run Try.prog w = .ok () (ChangeMaps.setBlock w b (.map (es.push ⟨.string s, ptrO addr (some i), clock⟩) (clock + 1))) := by
        simp [Instr.mapUpdate, run_underlying Try.underlying87, MapKept.run_getObj_map hb, dirKeyed.check w false hkey, h1, MapKept.run_setObj_map _ hb, Result.andThen, ChangeMaps.setBlock]
      rw [hup] at hrun2
      injection hrun2 with _ e2
      refine ⟨.map (es.push ⟨.string s, .pointer none, clock⟩) (clock + 1), .map (es.push ⟨.string s, ptrO addr (some i), clock⟩) (clock + 1), clock, fun W hW => ?_, fun W hW => ?_, fun W hW => ?_⟩
      · have hbW : W.heap[b]? = some (.map es clock) := hW.trans hb
        have h1W : (Instr.findKey 9 (.string s) es.toList).run Try.prog W = .ok none W := by
          rcases dirKeyed.find W hkey es.toList F.keys with ⟨g1, _⟩ | ⟨j, e0, _, g2, g3⟩
          · exact g1
          · exact absurd g3 (hno e0 (List.mem_of_getElem? g2))
        simp [Instr.mapEntry, run_underlying Try.underlying87, MapKept.run_getObj_map hbW, dirKeyed.check W false hkey, h1W, nilBody W, MapKept.run_setObj_map _ hbW, Result.andThen, ChangeMaps.setBlock, goInt]
      · have hst : ∀ x ∈ es.toList, x.born < clock := F.stamped.1
        have hfi : (es.push ⟨.string s, .pointer none, clock⟩).findIdx? (fun e : MapEntry => (e.born : Int) == (clock : Int)) = some es.size := by
          rw [Array.findIdx?_push]
          have : es.findIdx? (fun e : MapEntry => (e.born : Int) == (clock : Int)) = none := by
            rw [Array.findIdx?_eq_none_iff]
            intro x hx
            have := hst x (by simpa using hx)
            simp; omega
          rw [this]; simp
        simp only [Instr.entryStore, Sem.run_bind, MapKept.run_getObj_map hW, Result.andThen_ok, asInt, asIntOf, Sem.run_pure, hfi]
        rw [MapKept.run_setObj_map _ hW, modify_last]
        rfl
      · refine hd2.keep ?_
        rw [hW, ← e2]
        exact (by
          have hlt : b < w.heap.size := (Array.getElem?_eq_some_iff.1 hb).1
          simp [ChangeMaps.setBlock, hlt])
    · exact absurd h3 (hno e0 (List.mem_of_getElem? h2))
  · exfalso
    rw [← hD] at hat
    have := has_true_of_atKey hat
    rw [hnew] at this
    cases this
end Go.Proofs.Ytdmcjomcbhdcbaa

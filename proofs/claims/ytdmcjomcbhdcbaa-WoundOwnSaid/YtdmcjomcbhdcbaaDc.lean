/- Contract of the drive: a change is made in what stands; it is pending. -/
import Derived.Test.YtdmcjomcbhdcbaaDb
import Derived.WalkSpells
import Derived.Deep.RegionWith
namespace Go.Proofs.Ytdmcjomcbhdcbaa
open Go.RowKit Go.Maps Go.WideMaps

theorem snoc_ind {α : Type} {P : List α → Prop} (h0 : P []) (h1 : ∀ l x, P l → P (l ++ [x])) (l : List α) : P l := by
  have h : ∀ l : List α, P l.reverse := fun l => by
    induction l with
    | nil => exact h0
    | cons x l ih => rw [List.reverse_cons]; exact h1 _ _ ih
  have := h l.reverse
  rwa [List.reverse_reverse] at this

theorem Drv.chAll_snoc (S : Drv) (c : List Stp) (s : Stp) : S.chAll (c ++ [s]) = (S.chAll c).chStp s := by simp [Drv.chAll, List.foldl_append]
theorem Drv.chAll_bodies (S : Drv) : ∀ c : List Stp, (S.chAll c).bodies = S.bodies ∧ (S.chAll c).room = S.room ∧ (S.chAll c).kept = S.kept ∧ (S.chAll c).pending = S.pending := by
  refine snoc_ind ⟨rfl, rfl, rfl, rfl⟩ fun c s ih => ?_
  rw [Drv.chAll_snoc]; exact ih
theorem Drv.chAll_now (S : Drv) : ∀ c : List Stp, (S.chAll c).now = applyC S.now c := by
  refine snoc_ind rfl fun c s ih => ?_
  rw [Drv.chAll_snoc, applyC_snoc, ← ih]; rfl
theorem Drv.len_same {S T : Drv} (h : T.bodies = S.bodies) (i : Nat) : T.len i = S.len i := by unfold Drv.len Drv.body; rw [h]
theorem Drv.lenO_same {S T : Drv} (h : T.bodies = S.bodies) (o : Option Nat) : T.lenO o = S.lenO o := by
  cases o with
  | none => rfl
  | some i => simp only [Drv.lenO, Drv.len_same h]
theorem Drv.lenO_bd {S : Drv} {M : Nat} (h : ∀ i, S.len i ≤ M) (o : Option Nat) : 0 ≤ S.lenO o ∧ S.lenO o ≤ M := by
  cases o with
  | none => simp [Drv.lenO]
  | some i => have := h i; simp only [Drv.lenO]; omega
theorem Drv.chAll_used (S : Drv) {M : Nat} (h : ∀ i, S.len i ≤ M) : ∀ c : List Stp, S.used - c.length * M ≤ (S.chAll c).used ∧ (S.chAll c).used ≤ S.used + c.length * M := by
  refine snoc_ind (by simp [Drv.chAll]) fun c s ih => ?_
  · rw [Drv.chAll_snoc]
    have hb := (Drv.chAll_bodies S c).1
    have h1 := Drv.lenO_bd h (dget (S.chAll c).now s.1)
    have h2 := Drv.lenO_bd h s.2
    rw [← Drv.lenO_same hb] at h1 h2
    have e : ((S.chAll c).chStp s).used = (S.chAll c).used - (S.chAll c).lenO (dget (S.chAll c).now s.1) + (S.chAll c).lenO s.2 := rfl
    have hm : (((c ++ [s]).length : Nat) : Int) * M = (c.length : Int) * M + M := by
      rw [List.length_append, List.length_singleton, Int.natCast_add, Int.add_mul]; omega
    rw [e, hm]
    omega

section
variable {w w' : World} {p : Nat} {S : Drv} {L : Lay}
theorem DrvAt.setUsed (h : DrvAt w p S L) (u : Int) : DrvAt (w.setCell ⟨p, 1, none⟩ (.int .i64 u)) p { S with used := u } L := by
  have far : ∀ k, k ≠ p → (w.setCell ⟨p, 1, none⟩ (.int .i64 u)).heap[k]? = w.heap[k]? := fun k hk => Below.heap_setCell w _ _ k hk
  have np : ∀ k, L.foot p k → k ≠ p → (w.setCell ⟨p, 1, none⟩ (.int .i64 u)).heap[k]? = w.heap[k]? := fun k _ hk => far k hk
  have dm : ∀ {b : Nat} {D : Dir}, DirAt w L.addr b D → b ≠ p := by
    rintro b D ⟨es, clock, h1, _⟩ rfl
    have := h.head; unfold Blk at this; rw [h1] at this; injection this with this; cases this
  have db : ∀ {g : Nat} {t : TypeId} {cs : Array Value}, Blk w g t cs → t ≠ 90 → g ≠ p := fun h1 hne => h1.ne_ h.head hne
  have dr : ∀ {base : Nat} {e : TypeId} {n : Nat} {v : Value} {xs : List Value}, w.ownsRow base e 1 v n xs → e ≠ 90 → ∀ k, v.ownBlock = some k → k ≠ p := by
    intro base e n v xs h1 hne k hk e'
    exact own_blk_ne h1 h.head hne (by rw [hk, e'])
  exact {
    head := h.head.set_ 1 _
    now := h.now.keep (far _ (dm h.now))
    kept := h.kept.keep (far _ (dm h.kept))
    ne := h.ne, nodup := h.nodup, la := h.la, lv := h.lv
    body := fun i hi => (far _ (db (h.body i hi) (by decide))).trans (h.body i hi)
    data := fun i hi => ownsRow_keep (h.data i hi) fun k hk => far k (dr (h.data i hi) (by decide) k hk)
    rows := h.rows
    pend := ownsRow_keep h.pend fun k hk => far k (dr h.pend (by decide) k hk)
    li := h.li, pok := h.pok
    inner := fun j hj => (far _ (db (h.inner j hj) (by decide))).trans (h.inner j hj) }

theorem DrvAt.drew (h : DrvAt w p S L) : DrvAt w.drew p S L := h.keep fun _ _ => rfl
theorem DrvAt.setUsed1 (h : DrvAt w p S L) (a : Int) : DrvAt (w.setCell ⟨p, 1, none⟩ (.int .i64 a)).drew p { S with used := a } L := (h.setUsed a).drew
theorem DrvAt.setUsed2 (h : DrvAt w p S L) (a b : Int) : DrvAt ((w.setCell ⟨p, 1, none⟩ (.int .i64 a)).setCell ⟨p, 1, none⟩ (.int .i64 b)).drew.drew p { S with used := b } L := by
  have h1 := h.setUsed a
  have h2 := h1.setUsed b
  exact h2.drew.drew

theorem DrvAt.setNow (h : DrvAt w p S L) {D : Dir} (hd : DirAt w' L.addr L.nowM D) (ht : Touch (· = L.nowM) w w') : DrvAt w' p { S with now := D } L := by
  have far : ∀ k, L.foot p k → k ≠ L.nowM → w'.heap[k]? = w.heap[k]? := fun k hf hk => ht.block k (h.foot_lt hf) hk
  have dm : ∀ {g : Nat} {t : TypeId} {cs : Array Value}, Blk w g t cs → g ≠ L.nowM := by
    intro g t cs h1 e
    obtain ⟨es, clock, h2, _⟩ := h.now
    unfold Blk at h1; rw [e, h2] at h1; injection h1 with h1; cases h1
  have dr : ∀ {base : Nat} {e : TypeId} {n : Nat} {v : Value} {xs : List Value}, w.ownsRow base e 1 v n xs → ∀ k, v.ownBlock = some k → k ≠ L.nowM := by
    intro base e n v xs h1 k hk e'
    rcases h1.2 with ⟨rfl, _⟩ | ⟨g, cap, cur, rfl, _, hh, _⟩
    · simp [Value.ownBlock] at hk
    · have hg : g = k := by simpa [Value.ownBlock] using hk
      subst hg
      exact dm (t := e) (cs := cur) hh e'
  exact {
    head := (far _ (.inl rfl) (dm h.head)).trans h.head
    now := hd
    kept := h.kept.keep (far _ (.inr (.inr (.inl rfl))) (fun e => h.ne e.symm))
    ne := h.ne, nodup := h.nodup, la := h.la, lv := h.lv
    body := fun i hi => (far _ (.inr (.inr (.inr (.inl (getD_mem 0 (by rw [h.la]; exact hi)))))) (dm (h.body i hi))).trans (h.body i hi)
    data := fun i hi => ownsRow_keep (h.data i hi) fun k hk => far k (.inr (.inr (.inr (.inr (.inl ⟨_, getD_mem _ (by rw [h.lv]; exact hi), hk⟩))))) (dr (h.data i hi) k hk)
    rows := h.rows
    pend := ownsRow_keep h.pend fun k hk => far k (.inr (.inr (.inr (.inr (.inr (.inl hk)))))) (dr h.pend k hk)
    li := h.li, pok := h.pok
    inner := fun j hj => (far _ (.inr (.inr (.inr (.inr (.inr (.inr (getD_mem 0 (by rw [h.li]; exact hj)))))))) (dm (h.inner j hj))).trans (h.inner j hj) }
end

/-- Is the map there: it is. -/
theorem map_there (w : World) (b : Nat) : (binOp .eql 87 (.map (some b)) (.map none)).run Try.prog w = .ok (.bool false) w :=
  run_eql_map_nil (P := Try.prog) w _ _ _ (some b) Try.underlying87

/-- The end of a round of change. -/
theorem ch_close {X Y w2 w : World} {p g : Nat} {T : Drv} {L : Lay} {F : Nat → Prop} {s : Stp} {cs : Array Value} (hE : DrvAt X p { T with used := (T.chStp s).used } L) (hTX : Touch F w X) (hF : ∀ k, L.foot p k → F k)
    (hbX : Blk X g 122 cs) (hXY : Below X.heap.size X Y) (hD2 : DirAt w2 L.addr L.nowM (applyC T.now [s])) (hT2 : Touch (· = L.nowM) Y w2) :
    DrvAt w2 p (T.chStp s) L ∧ Touch F w w2 ∧ Blk w2 g 122 cs := by
  have hEY : DrvAt Y p { T with used := (T.chStp s).used } L := hE.keep fun k hk => hXY.block k (hE.foot_lt hk)
  have hgm : g ≠ L.nowM := by
    intro e
    obtain ⟨es, clock, h2, _⟩ := hE.now
    unfold Blk at hbX; rw [e, h2] at hbX; injection hbX with hbX; cases hbX
  refine ⟨hEY.setNow hD2 hT2, (hTX.trans (Touch.of_below hXY)).trans (hT2.mono fun k _ hk => .inl (by rw [hk]; exact hF _ (.inr (.inl rfl)))), ?_⟩
  exact (hT2.block g (Nat.lt_of_lt_of_le hbX.lt hXY.size) hgm).trans ((hXY.block g hbX.lt).trans hbX)

theorem zip_snoc {α β γ : Type} (f : α → β → γ) : ∀ (l : List α) (m : List β) (a : α) (b : β), l.length = m.length → List.zipWith f (l ++ [a]) (m ++ [b]) = List.zipWith f l m ++ [f a b]
  | [], [], a, b, _ => rfl
  | x :: l, y :: m, a, b, h => by simp [zip_snoc f l m a b (by simpa using h)]
  | [], _ :: _, _, _, h => by simp at h
  | _ :: _, [], _, _, h => by simp at h

theorem getD_snoc_lt {α : Type} {l : List α} {a d : α} {j : Nat} (h : j < l.length) : (l ++ [a]).getD j d = l.getD j d := by
  simp only [List.getD]; rw [List.getElem?_append_left h]
theorem getD_snoc_eq {α : Type} {l : List α} {a d : α} : (l ++ [a]).getD l.length d = a := by simp [List.getD]

/-- What is pending has grown by a change. -/
theorem DrvAt.setPend {w w1 : World} {p g : Nat} {S : Drv} {L : Lay} {c : List Stp} {v : Value} (h : DrvAt w p S L) (hg : Blk w g 122 (chgCells L.addr c).toArray)
    (ho : w1.ownsRow 0 114 1 v (S.pending.length + 1) (List.zipWith innerV L.inner S.pending ++ [innerV g c])) (hgr : w.grownBy w1 L.pv.ownBlock) (hok : okC L.addr c) :
    DrvAt (w1.setCell ⟨p, 4, none⟩ v) p { S with pending := S.pending ++ [c] } { L with pv := v, inner := L.inner ++ [g] } := by
  have e1 : ∀ {b : Nat} {D : Dir}, DirAt w L.addr b D → some b ≠ L.pv.ownBlock := by
    rintro b D ⟨es, clock, h1, _⟩ e
    rcases h.pend.2 with ⟨e2, _⟩ | ⟨g', cap, cur, e2, _, hh, _⟩
    · rw [e2] at e; simp [Value.ownBlock] at e
    · rw [e2] at e
      have : b = g' := by simpa [Value.ownBlock] using e
      subst this; rw [h1] at hh; injection hh with hh; cases hh
  have e2 : ∀ {b : Nat} {t : TypeId} {cs : Array Value}, Blk w b t cs → 114 ≠ t → some b ≠ L.pv.ownBlock := fun h1 hne e => own_blk_ne h.pend h1 hne e.symm
  have hp1 : Blk w1 p 90 #[.int .i64 S.room, .int .i64 S.used, .map (some L.nowM), .map (some L.keptM), L.pv] := h.head.grown hgr (e2 h.head (by decide))
  have far : ∀ k, k ≠ p → (w1.setCell ⟨p, 4, none⟩ v).heap[k]? = w1.heap[k]? := fun k hk => Below.heap_setCell w1 _ _ k hk
  have dm : ∀ {b : Nat} {D : Dir}, DirAt w1 L.addr b D → b ≠ p := by
    rintro b D ⟨es, clock, h1, _⟩ rfl
    unfold Blk at hp1; rw [h1] at hp1; injection hp1 with hp1; cases hp1
  have db : ∀ {g : Nat} {t : TypeId} {cs : Array Value}, Blk w1 g t cs → t ≠ 90 → Blk (w1.setCell ⟨p, 4, none⟩ v) g t cs := fun h1 hne => h1.far (p := ⟨p, 4, none⟩) (h1.ne_ hp1 hne) _
  have dr : ∀ {base : Nat} {e : TypeId} {n : Nat} {v' : Value} {xs : List Value}, w1.ownsRow base e 1 v' n xs → e ≠ 90 → (w1.setCell ⟨p, 4, none⟩ v).ownsRow base e 1 v' n xs := fun h1 hne =>
    ownsRow_keep h1 fun k hk => far k (fun e => own_blk_ne h1 hp1 hne (by rw [hk, e]))
  have mv : ∀ {b : Nat} {D : Dir}, DirAt w L.addr b D → DirAt (w1.setCell ⟨p, 4, none⟩ v) L.addr b D := fun h1 => by
    have h2 := h1.keep (hgr.block _ h1.lt (e1 h1))
    exact h2.keep (far _ (dm h2))
  exact {
    head := hp1.set_ 4 v
    now := mv h.now
    kept := mv h.kept
    ne := h.ne, nodup := h.nodup, la := h.la, lv := h.lv
    body := fun i hi => db ((h.body i hi).grown hgr (e2 (h.body i hi) (by decide))) (by decide)
    data := fun i hi => dr ((h.data i hi).kept hgr (own_ne (h.data i hi) h.pend (by decide))) (by decide)
    rows := h.rows
    pend := by
      have := dr ho (by decide)
      simpa [zip_snoc _ _ _ _ _ h.li] using this
    li := by simp [h.li]
    pok := fun c' hc' => by
      rcases List.mem_append.1 hc' with h1 | h1
      · exact h.pok c' h1
      · simp at h1; subst h1; exact hok
    inner := fun j hj => by
      by_cases e : j < S.pending.length
      · have h1 := db ((h.inner j e).grown hgr (e2 (h.inner j e) (by decide))) (by decide)
        have ea : (Lay.inr { L with pv := v, inner := L.inner ++ [g] } j) = L.inr j := getD_snoc_lt (by rw [h.li]; exact e)
        have eb : (S.pending ++ [c]).getD j [] = S.pending.getD j [] := getD_snoc_lt e
        show Blk _ (Lay.inr { L with pv := v, inner := L.inner ++ [g] } j) _ (chgCells L.addr ((S.pending ++ [c]).getD j [])).toArray
        rw [ea, eb]; exact h1
      · have ej : j = S.pending.length := by simp at hj; omega
        have h1 := db (hg.grown hgr (e2 hg (by decide))) (by decide)
        have ea : (Lay.inr { L with pv := v, inner := L.inner ++ [g] } j) = g := by rw [ej, ← h.li]; exact getD_snoc_eq
        have eb : (S.pending ++ [c]).getD j [] = c := by rw [ej]; exact getD_snoc_eq
        show Blk _ (Lay.inr { L with pv := v, inner := L.inner ++ [g] } j) _ (chgCells L.addr ((S.pending ++ [c]).getD j [])).toArray
        rw [ea, eb]; exact h1 }
end Go.Proofs.Ytdmcjomcbhdcbaa

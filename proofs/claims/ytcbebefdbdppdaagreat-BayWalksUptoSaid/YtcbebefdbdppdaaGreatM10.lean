/- The law's helper: files.; The law's helper: level, of two drives that are alike.; What the pure drive keeps by every call: its used bytes are those of what stands; no body is led to twice; bounds. No program in sight. -/
import Derived.Test.YtcbebefdbdppdaaGreatM9
import Derived.Test.YtcbebefdbdppdaaGreatM7
namespace Go.Proofs.YtcbebefdbdppdaaGreat
open Go.RowKit Go.Maps
theorem file_get : ∀ (fs : List File) (vals : List Value) (k : Nat) (f : File) (u : Value), fs[k]? = some f → vals[k]? = some u → (fileCells fs vals)[k * 2]? = some (strV f.1) ∧ (fileCells fs vals)[k * 2 + 1]? = some u
  | [], vals, k, f, u, h, _ => by simp at h
  | x :: fs, [], k, f, u, _, h => by simp at h
  | x :: fs, y :: vals, 0, f, u, h, h' => by simp at h h'; subst h; subst h'; simp [fileCells]
  | x :: fs, y :: vals, k + 1, f, u, h, h' => by
    have := file_get fs vals k f u (by simpa using h) (by simpa using h')
    rw [show (k + 1) * 2 = k * 2 + 2 by omega]
    simpa [fileCells] using this
theorem FilesAt.at_ {w : World} {base : Nat} {a : Option Addr} {n c : Nat} {fs : List File} (h : FilesAt w base (.slice a n c) fs) (hn : n = fs.length) {k : Nat} {f : File} (hf : fs[k]? = some f) :
    ∃ g b d, a = some ⟨g, 0, none⟩ ∧ w.cell? ⟨g, k * 2, none⟩ = some (strV f.1) ∧ w.cell? ⟨g, k * 2 + 1, none⟩ = some (.slice b f.2.length d) ∧ f.2.length ≤ d ∧ w.ownsRow base 5 1 (.slice b f.2.length d) f.2.length (f.2.map B8) := by
  obtain ⟨vals, hl, ho, hd⟩ := h
  have hk : k < fs.length := by
    rcases Nat.lt_or_ge k fs.length with h | h
    · exact h
    · rw [List.getElem?_eq_none h] at hf; cases hf
  obtain ⟨u, hu⟩ : ∃ u, vals[k]? = some u := ⟨_, List.getElem?_eq_getElem (by omega)⟩
  obtain ⟨c1, c2⟩ := file_get fs vals k f u hf hu
  have hrow := hd k f u hf hu
  obtain ⟨b, d, rfl, hbd⟩ := own_shape hrow
  subst hn
  obtain ⟨g, cap, hv, _, _⟩ := ho.form (by omega)
  have ha : a = some ⟨g, 0, none⟩ := by injection hv
  subst ha
  refine ⟨g, b, d, rfl, ?_, ?_, hbd, hrow⟩
  · have := ho.cells (g := g) rfl (k * 2) _ c1; simpa [add_plain] using this
  · have := ho.cells (g := g) rfl (k * 2 + 1) _ c2; simpa [add_plain] using this
theorem FilesAt.shape {w : World} {base : Nat} {v : Value} {fs : List File} (h : FilesAt w base v fs) : ∃ a c, v = .slice a fs.length c ∧ fs.length ≤ c := by
  obtain ⟨vals, hl, ho, hd⟩ := h
  exact own_shape ho
theorem conv_any (w : World) (B : Nat) (a : Option Addr) (bs : List UInt8) (c : Nat) (h : Reads w B 1 a bs.length (bs.map B8)) :
    (convert 46 9 (.slice a bs.length c)).run Tryz.prog w = .ok (.string ⟨bs.toArray⟩) w := by
  cases a with
  | none =>
    have : bs = [] := by
      rcases Nat.eq_zero_or_pos bs.length with h0 | h0
      · exact List.eq_nil_of_length_eq_zero h0
      · obtain ⟨ad, e, _⟩ := h.2 h0; cases e
    subst this
    exact run_convert_bytes_nil w 46 5 Tryz.underlying46 Tryz.underlying5 0 c 9 Tryz.underlying9
  | some ad =>
    refine run_convert_bytes_back w 46 9 5 ad c bs Tryz.underlying46 Tryz.underlying5 Tryz.underlying9 fun j hj => ?_
    obtain ⟨ad', e, _, hc⟩ := h.2 (by omega)
    injection e with e; subst e
    exact hc j (B8 bs[j]) (by simp [hj])
end Go.Proofs.YtcbebefdbdppdaaGreat
namespace Go.Proofs.YtcbebefdbdppdaaGreat
open Go.RowKit Go.Maps
structure Drv.Good (S : Drv) : Prop where
  small : S.Small
  now : Full S.now
  kept : Full S.kept
  safe : ∀ i, (S.body i).safe ≤ S.len i
theorem Dr.below {w w' : World} {p : Nat} {S : Drv} {F : Nat → Prop} (h : Dr w p S F) (hb : Below w.heap.size w w') : Dr w' p S F :=
  h.keep (Touch.of_below (F := fun _ => False) hb) fun _ _ h => h
end Go.Proofs.YtcbebefdbdppdaaGreat
namespace Go.Proofs.YtcbebefdbdppdaaGreat
open Go.RowKit Go.Maps
def ents : Dir → List (Lit × DataW Unit)
  | .map es => es
  | _ => []
def refs (D : Dir) : List Nat := (ents D).filterMap fun p => numOf p.2
theorem insert_perm (x : Lit × DataW Unit) : ∀ l : List (Lit × DataW Unit), (DataW.insert x l).Perm (x :: l)
  | [] => .refl _
  | y :: r => by
    unfold DataW.insert
    split
    · exact .refl _
    · exact ((insert_perm x r).cons y).trans (.swap x y r)
theorem sameKey_key {l : Lit} {s : Nm} (h : l.sameKey (key s) = true) : l = key s := by
  cases l <;> simp [Lit.sameKey, key] at h ⊢
  exact h
theorem refs_strike (s : Nm) : ∀ es : List (Lit × DataW Unit), es.Pairwise (fun p q => p.1 ≠ q.1) →
    (es.filterMap fun p => numOf p.2).Perm ((numOf ((es.find? (fun p => p.1.sameKey (key s))).elim .nil (·.2))).toList ++ (es.filter fun p => !p.1.sameKey (key s)).filterMap fun p => numOf p.2)
  | [], _ => .refl _
  | p :: es, h => by
    obtain ⟨h1, h2⟩ := List.pairwise_cons.1 h
    by_cases hp : p.1.sameKey (key s) = true
    · have hf : es.filter (fun q => !q.1.sameKey (key s)) = es := by
        rw [List.filter_eq_self]
        intro q hq
        have := h1 q hq
        cases hk : q.1.sameKey (key s) with
        | false => rfl
        | true => exact absurd ((sameKey_key hp).trans (sameKey_key hk).symm) this
      rw [List.find?_cons_of_pos (p := fun p : Lit × DataW Unit => p.1.sameKey (key s)) hp, List.filter_cons_of_neg (by simp [hp]), hf]
      cases hn : numOf p.2 with
      | none => rw [List.filterMap_cons_none (f := fun p : Lit × DataW Unit => numOf p.2) hn]; simp only [Option.elim]; rw [hn]; exact .refl _
      | some i => rw [List.filterMap_cons_some (f := fun p : Lit × DataW Unit => numOf p.2) hn]; simp only [Option.elim]; rw [hn]; exact .refl _
    · have ih := refs_strike s es h2
      rw [List.find?_cons_of_neg (p := fun p : Lit × DataW Unit => p.1.sameKey (key s)) hp, List.filter_cons_of_pos (by simp [hp])]
      cases hn : numOf p.2 with
      | none => rw [List.filterMap_cons_none (f := fun p : Lit × DataW Unit => numOf p.2) hn, List.filterMap_cons_none (f := fun p : Lit × DataW Unit => numOf p.2) hn]; exact ih
      | some i =>
        rw [List.filterMap_cons_some (f := fun p : Lit × DataW Unit => numOf p.2) hn, List.filterMap_cons_some (f := fun p : Lit × DataW Unit => numOf p.2) hn]
        exact (ih.cons i).trans List.perm_middle.symm
theorem atKey_map (es : List (Lit × DataW Unit)) (k : Lit) (z : DataW Unit) : (DataW.map es).atKey k z = (es.find? fun p => p.1.sameKey k).elim z (·.2) := by
  simp only [DataW.atKey]
  cases es.find? (fun p => p.1.sameKey k) <;> rfl
theorem refs_del {D : Dir} (h : Tidy D) (s : Nm) : (refs D).Perm ((dget D s).toList ++ refs (D.del (key s))) := by
  obtain ⟨es, rfl, hp⟩ := h
  unfold dget
  rw [atKey_map]
  exact refs_strike s es hp
theorem refs_put {D : Dir} (h : Tidy D) (s : Nm) (i : Nat) : (refs (D.put (key s) (num i))).Perm (i :: refs (D.del (key s))) := by
  obtain ⟨es, rfl, hp⟩ := h
  have := (insert_perm (key s, num i) (es.filter fun p => !p.1.sameKey (key s))).filterMap fun p => numOf p.2
  rw [List.filterMap_cons_some (b := i) (by exact numOf_num i)] at this
  exact this
theorem refs_mem {D : Dir} (h : Tidy D) {s : Nm} {i : Nat} (hg : dget D s = some i) : i ∈ refs D := by
  have := refs_del h s
  rw [hg] at this
  exact this.mem_iff.2 (by simp)
def Drv.sum (S : Drv) (l : List Nat) : Nat := (l.map S.len).sum
theorem Drv.sum_perm (S : Drv) {l m : List Nat} (h : l.Perm m) : S.sum l = S.sum m := (h.map _).sum_nat
theorem Drv.sum_opt (S : Drv) (o : Option Nat) (l : List Nat) : (S.sum (o.toList ++ l) : Int) = S.lenO o + S.sum l := by
  cases o <;> simp [Drv.sum, Drv.lenO]
theorem Drv.sum_mem (S : Drv) {l : List Nat} {i : Nat} (h : i ∈ l) : S.len i ≤ S.sum l := by
  induction l with
  | nil => cases h
  | cons x l ih =>
    simp only [Drv.sum, List.map_cons, List.sum_cons] at *
    rcases List.mem_cons.1 h with rfl | h
    · omega
    · have := ih h; omega
theorem Drv.sum_le (S : Drv) {M : Nat} (h : ∀ i, S.len i ≤ M) (l : List Nat) : S.sum l ≤ l.length * M := by
  induction l with
  | nil => simp [Drv.sum]
  | cons x l ih =>
    simp only [Drv.sum, List.map_cons, List.sum_cons, List.length_cons] at *
    have := h x
    rw [Nat.add_mul]; omega
theorem Drv.sum_same {S T : Drv} {l : List Nat} (h : ∀ i ∈ l, T.len i = S.len i) : T.sum l = S.sum l := by
  unfold Drv.sum; rw [List.map_congr_left h]
theorem Drv.sum_one {S T : Drv} {l : List Nat} {i n : Nat} (hn : l.Nodup) (hi : i ∈ l) (h : T.len i = S.len i + n) (ho : ∀ j, j ≠ i → T.len j = S.len j) : T.sum l = S.sum l + n := by
  induction l with
  | nil => cases hi
  | cons x l ih =>
    obtain ⟨h1, h2⟩ := List.nodup_cons.1 hn
    rcases List.mem_cons.1 hi with rfl | hi
    · have := Drv.sum_same (S := S) (T := T) (l := l) fun j hj => ho j (fun e => h1 (e ▸ hj))
      simp only [Drv.sum, List.map_cons, List.sum_cons] at *
      omega
    · have := ih h2 hi
      have hx := ho x (fun e => h1 (e ▸ hi))
      simp only [Drv.sum, List.map_cons, List.sum_cons] at *
      omega
theorem refs_length {D : Dir} (h : Tidy D) : (refs D).length ≤ size D := by
  obtain ⟨es, rfl, _⟩ := h
  exact List.length_filterMap_le _ _
theorem Full.put {D : Dir} (h : Full D) (ht : Tidy D) {s : Nm} (hs : s.length ≤ 1024) (i : Nat) : Full (D.put (key s) (num i)) := by
  intro t hh
  by_cases e : t = s
  · subst e; exact ⟨hs, i, dget_put_same ht.isMap t i⟩
  · rw [has_put_other (key_ne e)] at hh
    rw [dget_put_other e]; exact h t hh
theorem Full.del {D : Dir} (h : Full D) (s : Nm) : Full (D.del (key s)) := by
  intro t hh
  by_cases e : t = s
  · subst e; rw [has_del_same] at hh; cases hh
  · rw [has_del_other (key_ne e)] at hh
    rw [dget_del_other e]; exact h t hh
def NmKeys (D : Dir) : Prop := ∀ p ∈ ents D, ∃ s, p.1 = key s
theorem NmKeys.del {D : Dir} (h : NmKeys D) (ht : Tidy D) (k : Lit) : NmKeys (D.del k) := by
  obtain ⟨es, rfl, _⟩ := ht
  intro p hp
  exact h p (List.mem_filter.1 hp).1
theorem NmKeys.put {D : Dir} (h : NmKeys D) (ht : Tidy D) (s : Nm) (d : DataW Unit) : NmKeys (D.put (key s) d) := by
  obtain ⟨es, rfl, _⟩ := ht
  intro p hp
  have := (insert_perm (key s, d) (es.filter fun p => !p.1.sameKey (key s))).mem_iff.1 hp
  rcases List.mem_cons.1 this with rfl | h1
  · exact ⟨s, rfl⟩
  · exact h p (List.mem_filter.1 h1).1
theorem NmKeys.stp {D : Dir} (h : NmKeys D) (ht : Tidy D) (s : Stp) : NmKeys (applyStp D s) := by
  obtain ⟨nm, o⟩ := s
  cases o with
  | none => exact h.del ht _
  | some i => exact h.put ht nm _
theorem NmKeys.app : ∀ (c : List Stp) {D : Dir}, NmKeys D → Tidy D → NmKeys (applyC D c)
  | [], _, h, _ => h
  | s :: c, _, h, ht => NmKeys.app c (h.stp ht s) (applyStp_tidy ht s).1
def puts (c : List Stp) : Nat := (c.filter fun s => s.2.isSome).length
def shortC (c : List Stp) : Prop := c.length ≤ 4 ∧ ∀ s ∈ c, s.2.isSome = true → s.1.length ≤ 1024
theorem apply_keeps {D : Dir} (hf : Full D) (ht : Tidy D) (s : Stp) (hs : s.2.isSome = true → s.1.length ≤ 1024) : Full (applyStp D s) ∧ Tidy (applyStp D s) ∧ size (applyStp D s) ≤ size D + puts [s] := by
  obtain ⟨nm, o⟩ := s
  cases o with
  | none => exact ⟨hf.del _, ht.del _, by have := size_del_le ht (key nm); exact Nat.le_trans this (Nat.le_add_right _ _)⟩
  | some i => exact ⟨hf.put ht (hs rfl) i, ht.put (isKey _) _, by have := size_put_le ht nm (num i); exact this⟩
theorem applyC_keeps : ∀ (c : List Stp) {D : Dir}, Full D → Tidy D → shortC c → Full (applyC D c) ∧ Tidy (applyC D c) ∧ size (applyC D c) ≤ size D + puts c
  | [], D, hf, ht, _ => ⟨hf, ht, Nat.le_refl _⟩
  | s :: c, D, hf, ht, hs => by
    obtain ⟨h1, h2, h3⟩ := apply_keeps hf ht s (hs.2 s List.mem_cons_self)
    obtain ⟨k1, k2, k3⟩ := applyC_keeps c h1 h2 ⟨by have := hs.1; simp at this; omega, fun x hx => hs.2 x (List.mem_cons_of_mem _ hx)⟩
    refine ⟨k1, k2, ?_⟩
    have e : applyC D (s :: c) = applyC (applyStp D s) c := rfl
    have p : puts (s :: c) = puts [s] + puts c := by simp only [puts, ← List.length_append, ← List.filter_append]; rfl
    rw [e, p]; omega
structure Drv.Inv (S : Drv) (N : Nat) : Prop where
  tnow : Tidy S.now
  tkept : Tidy S.kept
  know : NmKeys S.now
  kkept : NmKeys S.kept
  nodup : (refs S.now).Nodup
  rlt : ∀ i ∈ refs S.now, i < S.bodies.length
  used : S.used = (S.sum (refs S.now) : Int)
  len : ∀ i, S.len i ≤ 1073741824
  safe : ∀ i, (S.body i).safe ≤ S.len i
  fnow : Full S.now
  fkept : Full S.kept
  snow : size S.now ≤ N
  skept : size S.kept + (S.pending.map puts).sum ≤ N
  pend : S.pending.length ≤ N
  pok : ∀ c ∈ S.pending, shortC c
  room : S.room ≤ 1073741824
  rooms : N ≤ 1073741824
theorem Drv.Inv.small {S : Drv} {N : Nat} (h : S.Inv N) (hN : N ≤ 2199023254000) : S.Small where
  len i := by have := h.len i; have := h.room; omega
  used := by
    have h1 := h.used
    have h2 := S.sum_le h.len (refs S.now)
    have h3 := refs_length h.tnow
    have h4 := h.snow
    have h5 := h.rooms
    have h6 : (refs S.now).length * 1073741824 ≤ N * 1073741824 := Nat.mul_le_mul_right _ (by omega)
    omega
  now := by have := h.snow; omega
  kept := by have := h.skept; omega
  pend := by have := h.pend; omega
  room := by have := h.room; omega
  safe i := by have := h.safe i; have := h.len i; have := h.room; omega
  pos := by have := h.used; omega
theorem Drv.new_inv (r N : Nat) (hr : r ≤ 1073741824) (hN : N ≤ 1073741824) : (Drv.new r).Inv N where
  tnow := tidy_empty
  tkept := tidy_empty
  know := fun p hp => by cases hp
  kkept := fun p hp => by cases hp
  nodup := List.nodup_nil
  rlt := fun i hi => by cases hi
  used := rfl
  len := fun i => Nat.zero_le _
  safe := fun i => Nat.le_refl _
  fnow := fun s h => by cases h
  fkept := fun s h => by cases h
  snow := Nat.zero_le _
  skept := Nat.zero_le _
  pend := Nat.zero_le _
  pok := fun c hc => by cases hc
  room := hr
  rooms := hN
theorem Drv.Inv.mono {S : Drv} {N M : Nat} (h : S.Inv N) (hM : N ≤ M) (hr : M ≤ 1073741824) : S.Inv M :=
  { h with snow := Nat.le_trans h.snow hM, skept := Nat.le_trans h.skept hM, pend := Nat.le_trans h.pend hM, rooms := hr }
theorem named_len {s : Nm} (h : named s = true) : s.length ≤ 1024 := by unfold named at h; have := of_decide_eq_true h; exact this.2
theorem chStp_used {S : Drv} (ht : Tidy S.now) (hu : S.used = (S.sum (refs S.now) : Int)) (s : Stp) :
    (S.chStp s).used = ((S.chStp s).sum (refs (S.chStp s).now) : Int) ∧ (refs (S.chStp s).now).Perm (s.2.toList ++ refs (S.now.del (key s.1))) := by
  obtain ⟨nm, o⟩ := s
  have h1 := refs_del ht nm
  have hp : (refs (S.chStp (nm, o)).now).Perm (o.toList ++ refs (S.now.del (key nm))) := by
    cases o with
    | none => exact .refl _
    | some i => exact refs_put ht nm i
  refine ⟨?_, hp⟩
  have e1 : ∀ l, (S.chStp (nm, o)).sum l = S.sum l := fun l => rfl
  have e2 : (S.chStp (nm, o)).used = S.used - S.lenO (dget S.now nm) + S.lenO o := rfl
  have h2 := S.sum_perm h1
  have h3 := S.sum_opt (dget S.now nm) (refs (S.now.del (key nm)))
  have h4 := S.sum_opt o (refs (S.now.del (key nm)))
  rw [e1, S.sum_perm hp, e2, hu, h2]
  omega
theorem Inv.change1 {S : Drv} {N : Nat} (h : S.Inv N) (s : Nm) (o : Option Nat) (hs : o.isSome = true → s.length ≤ 1024) (ho : ∀ i, o = some i → i < S.bodies.length ∧ i ∉ refs (S.now.del (key s))) (hr : (N + 1) ≤ 1073741824) :
    (S.change [(s, o)]).Inv (N + 1) := by
  have hk := apply_keeps h.fnow h.tnow (s, o) hs
  have hu := chStp_used h.tnow h.used (s, o)
  have hpu : puts [(s, o)] ≤ 1 := by cases o <;> simp [puts]
  have hsub : ∀ i ∈ refs (S.now.del (key s)), i ∈ refs S.now := fun i hi => (refs_del h.tnow s).mem_iff.2 (List.mem_append_right _ hi)
  exact {
    tnow := hk.2.1
    tkept := h.tkept
    know := h.know.stp h.tnow _
    kkept := h.kkept
    nodup := by
      refine hu.2.nodup_iff.2 ?_
      have hn : (refs (S.now.del (key s))).Nodup := (List.nodup_append.1 ((refs_del h.tnow s).nodup_iff.1 h.nodup)).2.1
      cases o with
      | none => exact hn
      | some i => exact List.nodup_cons.2 ⟨(ho i rfl).2, hn⟩
    rlt := fun i hi => by
      have := hu.2.mem_iff.1 hi
      rcases List.mem_append.1 this with h1 | h1
      · cases o with
        | none => cases h1
        | some j => simp at h1; subst h1; exact (ho _ rfl).1
      · exact h.rlt i (hsub i h1)
    used := hu.1
    len := h.len
    safe := h.safe
    fnow := hk.1
    fkept := h.fkept
    snow := by have := hk.2.2; have := h.snow; show size (applyStp S.now (s, o)) ≤ _; omega
    skept := by
      have h1 := h.skept
      have e : (S.change [(s, o)]).pending = S.pending ++ [[(s, o)]] := rfl
      rw [e, List.map_append, List.sum_append]
      show size S.kept + _ ≤ _
      simp only [List.map_cons, List.map_nil, List.sum_cons, List.sum_nil]
      omega
    pend := by
      have e : (S.change [(s, o)]).pending = S.pending ++ [[(s, o)]] := rfl
      rw [e, List.length_append]; have := h.pend; simp; omega
    pok := fun c hc => by
      have e : (S.change [(s, o)]).pending = S.pending ++ [[(s, o)]] := rfl
      rw [e] at hc
      rcases List.mem_append.1 hc with h1 | h1
      · exact h.pok c h1
      · simp at h1; subst h1
        refine ⟨by simp, fun x hx hy => ?_⟩
        simp at hx; subst hx; exact hs hy
    room := h.room
    rooms := hr }
theorem Inv.change2 {S : Drv} {N : Nat} (h : S.Inv N) (s t : Nm) {i : Nat} (hg : dget S.now s = some i) (ht : t.length ≤ 1024) (hr : (N + 1) ≤ 1073741824) :
    (S.change [(s, none), (t, some i)]).Inv (N + 1) := by
  have k1 := apply_keeps h.fnow h.tnow (s, none) (fun e => by cases e)
  have u1 := chStp_used h.tnow h.used (s, none)
  have k2 := apply_keeps k1.1 k1.2.1 (t, some i) (fun _ => ht)
  have u2 := chStp_used (S := S.chStp (s, none)) k1.2.1 u1.1 (t, some i)
  have hp1 := refs_del h.tnow s
  rw [hg] at hp1
  have hn1 := hp1.nodup_iff.1 h.nodup
  have hn2 := List.nodup_cons.1 hn1
  have hp2 := refs_del k1.2.1 t
  have e1 : applyStp S.now (s, none) = S.now.del (key s) := rfl
  rw [e1] at hp2
  have hsub : ∀ j ∈ refs ((S.now.del (key s)).del (key t)), j ∈ refs (S.now.del (key s)) := fun j hj => hp2.mem_iff.2 (List.mem_append_right _ hj)
  have e3 : (S.change [(s, none), (t, some i)]).pending = S.pending ++ [[(s, none), (t, some i)]] := rfl
  exact {
    tnow := k2.2.1
    tkept := h.tkept
    know := (h.know.stp h.tnow (s, none)).stp k1.2.1 (t, some i)
    kkept := h.kkept
    nodup := by
      refine u2.2.nodup_iff.2 ?_
      exact List.nodup_cons.2 ⟨fun hj => hn2.1 (hsub i hj), (List.nodup_append.1 (hp2.nodup_iff.1 hn2.2)).2.1⟩
    rlt := fun j hj => by
      rcases List.mem_cons.1 (u2.2.mem_iff.1 hj) with rfl | h1
      · exact h.rlt _ (refs_mem h.tnow hg)
      · exact h.rlt j (hp1.mem_iff.2 (List.mem_cons_of_mem _ (hsub j h1)))
    used := u2.1
    len := h.len
    safe := h.safe
    fnow := k2.1
    fkept := h.fkept
    snow := by
      have a := k1.2.2; have b := k2.2.2; have c := h.snow
      have p1 : puts [(s, (none : Option Nat))] = 0 := rfl
      have p2 : puts [(t, some i)] = 1 := rfl
      show size (applyStp (applyStp S.now (s, none)) (t, some i)) ≤ _
      omega
    skept := by
      have h1 := h.skept
      rw [e3, List.map_append, List.sum_append]
      show size S.kept + _ ≤ _
      have p : puts [(s, (none : Option Nat)), (t, some i)] = 1 := rfl
      simp only [List.map_cons, List.map_nil, List.sum_cons, List.sum_nil, p]
      omega
    pend := by rw [e3, List.length_append]; have := h.pend; simp; omega
    pok := fun c hc => by
      rw [e3] at hc
      rcases List.mem_append.1 hc with h1 | h1
      · exact h.pok c h1
      · simp at h1; subst h1
        refine ⟨by simp, fun x hx hy => ?_⟩
        simp at hx
        rcases hx with rfl | rfl
        · cases hy
        · exact ht
    room := h.room
    rooms := hr }
theorem Drv.create_inv {S : Drv} {N : Nat} (h : S.Inv N) (s : Nm) (hr : (N + 1) ≤ 1073741824) : (S.create s).1.Inv (N + 1) := by
  unfold Drv.create
  split
  · exact h.mono (by omega) hr
  · split
    · exact h.mono (by omega) hr
    · rename_i hn _
      have hn' : named s = true := by simpa using hn
      have hbl : ∀ i, (Drv.len { S with bodies := S.bodies ++ [⟨[], 0⟩] } i) = S.len i ∧ (Drv.body { S with bodies := S.bodies ++ [⟨[], 0⟩] } i).safe = (S.body i).safe := by
        intro i
        unfold Drv.len Drv.body
        rcases Nat.lt_trichotomy i S.bodies.length with h1 | h1 | h1
        · simp only [List.getD, List.getElem?_append_left h1, and_self]
        · subst h1; simp [List.getD]
        · simp only [List.getD]
          rw [List.getElem?_eq_none (by simp; omega), List.getElem?_eq_none (by omega)]; simp
      refine Inv.change1 (S := { S with bodies := S.bodies ++ [⟨[], 0⟩] }) (N := N) ?_ s (some S.bodies.length) (fun _ => named_len hn') ?_ hr
      · exact { h with
          rlt := fun i hi => by have := h.rlt i hi; simp; omega
          used := by rw [Drv.sum_same (S := S) fun i _ => (hbl i).1]; exact h.used
          len := fun i => by rw [(hbl i).1]; exact h.len i
          safe := fun i => by rw [(hbl i).1, (hbl i).2]; exact h.safe i }
      · rintro i hi
        injection hi with hi; subst hi
        refine ⟨by simp, fun hm => ?_⟩
        have := h.rlt _ ((refs_del h.tnow s).mem_iff.2 (List.mem_append_right _ hm))
        omega
theorem find_some {S : Drv} {s : Nm} {i : Nat} {e : Int} (h : S.find s = (some i, e)) : dget S.now s = some i ∧ named s = true := by
  unfold Drv.find at h
  split at h
  · cases h
  · rename_i hn
    split at h
    · rename_i j hj
      injection h with h1 _; injection h1 with h1; subst h1
      exact ⟨hj, by simpa using hn⟩
    · cases h
theorem Drv.remove_inv {S : Drv} {N : Nat} (h : S.Inv N) (s : Nm) (hr : (N + 1) ≤ 1073741824) : (S.remove s).1.Inv (N + 1) := by
  unfold Drv.remove
  split
  · exact h.mono (by omega) hr
  · exact Inv.change1 h s none (fun e => by cases e) (fun i hi => by cases hi) hr
theorem Drv.rename_inv {S : Drv} {N : Nat} (h : S.Inv N) (s t : Nm) (hr : (N + 1) ≤ 1073741824) : (S.rename s t).1.Inv (N + 1) := by
  unfold Drv.rename
  split
  · exact h.mono (by omega) hr
  · rename_i hnn
    split
    · exact h.mono (by omega) hr
    · rename_i i e hf
      split
      · exact h.mono (by omega) hr
      · obtain ⟨hg, hn⟩ := find_some hf
        refine Inv.change2 h s t hg (named_len ?_) hr
        cases hb : named t with
        | true => rfl
        | false => exact absurd ⟨hn, hb⟩ hnn
theorem setBody_len (S : Drv) {i : Nat} (hi : i < S.bodies.length) (B : Body) (j : Nat) : (S.setBody i B).len j = if j = i then B.data.length else S.len j := by
  unfold Drv.len
  by_cases e : j = i
  · subst e; rw [if_pos rfl, Drv.setBody_same S hi]
  · rw [if_neg e, Drv.setBody_other S e]
theorem Drv.sync_inv {S : Drv} {N : Nat} (h : S.Inv N) (s : Nm) (hr : (N + 1) ≤ 1073741824) : (S.sync s).1.Inv (N + 1) := by
  unfold Drv.sync
  split
  · exact h.mono (by omega) hr
  · rename_i i e hf
    obtain ⟨hg, hn⟩ := find_some hf
    have hi := h.rlt i (refs_mem h.tnow hg)
    have hl : ∀ j, (S.setBody i ⟨(S.body i).data, S.len i⟩).len j = S.len j := fun j => by
      rw [setBody_len S hi]; split
      · rename_i e; subst e; rfl
      · rfl
    have h' := h.mono (M := N + 1) (by omega) hr
    exact { h' with
      rlt := fun j hj => by rw [Drv.setBody_length]; exact h.rlt j hj
      used := by rw [Drv.sum_same (S := S) fun j _ => hl j]; exact h.used
      len := fun j => by rw [hl]; exact h.len j
      safe := fun j => by
        rw [hl]
        by_cases e : j = i
        · subst e; rw [Drv.setBody_same S hi]; exact Nat.le_refl _
        · rw [Drv.setBody_other S e]; exact h.safe j }
theorem Drv.append_inv {S : Drv} {N : Nat} (h : S.Inv N) (s : Nm) (bs : List UInt8) (hr : (N + 1) ≤ 1073741824) : (S.append s bs).1.Inv (N + 1) := by
  unfold Drv.append
  split
  · exact h.mono (by omega) hr
  · rename_i i e hf
    split
    · exact h.mono (by omega) hr
    · split
      · exact h.mono (by omega) hr
      · rename_i hro
        obtain ⟨hg, hn⟩ := find_some hf
        have hm := refs_mem h.tnow hg
        have hi := h.rlt i hm
        have hl : ∀ j, (Drv.len { S.setBody i ⟨(S.body i).data ++ bs, (S.body i).safe⟩ with used := S.used + bs.length } j) = if j = i then S.len i + bs.length else S.len j := fun j => by
          have : (Drv.len { S.setBody i ⟨(S.body i).data ++ bs, (S.body i).safe⟩ with used := S.used + bs.length } j) = (S.setBody i ⟨(S.body i).data ++ bs, (S.body i).safe⟩).len j := rfl
          rw [this, setBody_len S hi, List.length_append]; rfl
        have hb : ∀ j, (Drv.body { S.setBody i ⟨(S.body i).data ++ bs, (S.body i).safe⟩ with used := S.used + bs.length } j) = (S.setBody i ⟨(S.body i).data ++ bs, (S.body i).safe⟩).body j := fun j => rfl
        have hsm := S.sum_mem hm
        have hu := h.used
        have h' := h.mono (M := N + 1) (by omega) hr
        exact { h' with
          rlt := fun j hj => by
            show j < (S.setBody i _).bodies.length
            rw [Drv.setBody_length]; exact h.rlt j hj
          used := by
            have e := Drv.sum_one (S := S) (T := { S.setBody i ⟨(S.body i).data ++ bs, (S.body i).safe⟩ with used := S.used + bs.length }) (n := bs.length) h.nodup hm (by rw [hl, if_pos rfl]) (fun j hj => by rw [hl, if_neg hj])
            show S.used + _ = ((Drv.sum _ (refs S.now) : Nat) : Int)
            rw [e]
            omega
          len := fun j => by
            rw [hl]
            have hro := h.room; show _ ≤ 1073741824
            split
            · omega
            · exact h.len j
          safe := fun j => by
            rw [hl, hb]
            by_cases e : j = i
            · subst e; rw [Drv.setBody_same S hi, if_pos rfl]; have := h.safe j; show (S.body j).safe ≤ _; omega
            · rw [Drv.setBody_other S e, if_neg e]; exact h.safe j }
theorem Drv.syncDir_inv {S : Drv} {N : Nat} (h : S.Inv N) (hr : (N + 1) ≤ 1073741824) : S.syncDir.Inv (N + 1) := by
  have h' := h.mono (M := N + 1) (by omega) hr
  exact { h' with
    tkept := h.tnow
    kkept := h.know
    fkept := h.fnow
    skept := by
      have := h.snow
      show size S.now + ([] : List Nat).sum ≤ N + 1
      simp; omega
    pend := Nat.zero_le _
    pok := fun c hc => by cases hc }
end Go.Proofs.YtcbebefdbdppdaaGreat

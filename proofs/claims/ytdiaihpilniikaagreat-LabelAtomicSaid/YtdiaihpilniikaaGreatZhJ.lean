/- LabelAtomic: a wound, a row of labels and a box side by side in memory; a turn among a law's arguments. -/
import Derived.Test.YtdiaihpilniikaaGreatZgJ
import Derived.Test.YtdiaihpilniikaaGreatFaJ
import Derived.Test.YtdiaihpilniikaaGreatLq0J
namespace Go.Proofs.YtdiaihpilniikaaGreat
open Go.RowKit Go.Maps

/-- A wound on its drive above h; a row of labels outside of it; blocks outside of it. -/
structure TS (h q p : Nat) (O : List Nat) (may : List Lab) (mv : Value) (X : Wnd) (S : Drv) (w : World) : Prop where
  mk :: (ex : ∃ F : Nat → Prop, WD w q p X S F ∧ (∀ k, F k → h ≤ k ∧ k < w.heap.size) ∧ w.ownsRow h 27 13 mv may.length (labRow may) ∧ (∀ b, mv.ownBlock = some b → ¬F b) ∧ ∀ b ∈ O, ¬F b ∧ b < w.heap.size)
section
variable {h q p : Nat} {O : List Nat} {may : List Lab} {mv : Value} {X Y : Wnd} {S T : Drv} {w w' : World}
theorem TS.below (hs : TS h q p O may mv X S w) (hb : Below w.heap.size w w') : TS h q p O may mv X S w' := by
  obtain ⟨F, a, b, c, d, e⟩ := hs.ex
  exact ⟨F, WD.below a hb, fun k hk => ⟨(b k hk).1, Nat.lt_of_lt_of_le (b k hk).2 hb.size⟩, ownsRow_below c hb, d, fun g hg => ⟨(e g hg).1, Nat.lt_of_lt_of_le (e g hg).2 hb.size⟩⟩
theorem TS.forget (hs : TS h q p O may mv X S w) : TS h q p [] may mv X S w := by
  obtain ⟨F, a, b, c, d, _⟩ := hs.ex
  exact ⟨F, a, b, c, d, fun g hg => by cases hg⟩
/-- A new block is outside. -/
theorem TS.out (hs : TS h q p O may mv X S w) (hb : Below w.heap.size w w') {g : Nat} (h1 : w.heap.size ≤ g) (h2 : g < w'.heap.size) : TS h q p (g :: O) may mv X S w' := by
  obtain ⟨F, a, b, c, d, e⟩ := (hs.below hb).ex
  obtain ⟨F0, a0, b0, c0, d0, e0⟩ := hs.ex
  exact ⟨F0, WD.below a0 hb, fun k hk => ⟨(b0 k hk).1, Nat.lt_of_lt_of_le (b0 k hk).2 hb.size⟩, ownsRow_below c0 hb, d0, fun x hx => by
    rcases List.mem_cons.1 hx with rfl | hx
    · exact ⟨fun hf => by have := (b0 _ hf).2; omega, h2⟩
    · exact ⟨(e0 x hx).1, Nat.lt_of_lt_of_le (e0 x hx).2 hb.size⟩⟩
theorem TS.row (hs : TS h q p O may mv X S w) : w.ownsRow h 27 13 mv may.length (labRow may) := by
  obtain ⟨F, _, _, c, _⟩ := hs.ex
  exact c
/-- A call of the wound. -/
theorem TS.step {P : Program} {fn : Nat} {args : Array Value} {E : Ending → World → Prop} (hs : TS h q p O may mv X S w) (hh : h ≤ w.heap.size)
    (hc : ∀ F : Nat → Prop, WD w q p X S F → (∀ k, F k → h ≤ k ∧ k < w.heap.size) → (∀ b, mv.ownBlock = some b → ¬F b) → Calls P fn args w fun e w' => E e w' ∧ WD w' q p Y T (grow F w w') ∧ Touch F w w') :
    Calls P fn args w fun e w' => E e w' ∧ TS h q p O may mv Y T w' ∧ Below h w w' ∧ ∀ b ∈ O, w'.heap[b]? = w.heap[b]? := by
  obtain ⟨F, a, b, c, d, e⟩ := hs.ex
  refine (hc F a b d).mono ?_
  rintro en w' ⟨he, hw, ht⟩
  have hsz := ht.size
  refine ⟨he, ⟨grow F w w', hw, fun k hk => ?_, ownsRow_keep c fun k hk => ht.block k (c.lt k hk).2 (d k hk), fun g hg hf => ?_, fun g hg => ⟨fun hf => ?_, by have := (e g hg).2; omega⟩⟩, ht.below hh fun k hk => (b k hk).1, fun g hg => ht.block g (e g hg).2 (e g hg).1⟩
  · rcases hk with hk | hk
    · exact ⟨(b k hk).1, by have := (b k hk).2; omega⟩
    · exact ⟨by omega, hk.2⟩
  · rcases hf with hf | hf
    · exact d g hg hf
    · have := (c.lt g hg).2; omega
  · rcases hf with hf | hf
    · exact (e g hg).1 hf
    · have := (e g hg).2; omega
/-- A call that only looks at the wound. -/
theorem TS.look {P : Program} {fn : Nat} {args : Array Value} {E : Ending → World → Prop} (hs : TS h q p O may mv X S w)
    (hc : ∀ F : Nat → Prop, WD w q p X S F → Calls P fn args w E) : Calls P fn args w E := by
  obtain ⟨F, a, _⟩ := hs.ex
  exact hc F a
end

/-- A turn among a law's arguments. -/
structure PTurn where
  lab : Lab
  plan : List (Int × Int)
  away : Bool
  fused : Bool
  call : Int
  inside : Int
  lost : Bool
  dirs : List Bool
  cuts : List Int
structure TLay where
  pp : Option Addr
  cp : Nat
  pr : Option Addr
  cr : Nat
  pc : Option Addr
  cc : Nat
def turnCells (x : PTurn) (L : TLay) : List Value := (labCells x.lab).toList ++ [.slice L.pp x.plan.length L.cp, .bool x.away, .bool x.fused, .int .i64 x.call, .int .i64 x.inside, .bool x.lost, .slice L.pr x.dirs.length L.cr, .slice L.pc x.cuts.length L.cc]
structure TurnAt (w : World) (B : Nat) (L : TLay) (x : PTurn) : Prop where
  wf : x.lab.Wf
  plan : Reads w B 2 L.pp x.plan.length (planCells x.plan)
  dirs : Reads w B 1 L.pr x.dirs.length (x.dirs.map boolV)
  cuts : Reads w B 1 L.pc x.cuts.length (x.cuts.map intV)
  lp : x.plan.length * 16 ≤ 140737488351232
  ld : x.dirs.length ≤ 140737488351232
  lc : x.cuts.length * 8 ≤ 140737488351232
structure TurnsAt (w : World) (B : Nat) (A : Option Addr) (n : Nat) (ts : List PTurn) : Prop where
  len : ts.length = n
  at_ : ∀ (k : Nat) (x : PTurn), ts[k]? = some x → ∃ b off L, A = some ⟨b, off, none⟩ ∧ b < B ∧ (∀ j u, (turnCells x L)[j]? = some u → w.cell? ⟨b, off + k * 21 + j, none⟩ = some u) ∧ TurnAt w B L x
theorem TurnAt.below {w w' : World} {B : Nat} {L : TLay} {x : PTurn} (h : TurnAt w B L x) (hb : Below B w w') : TurnAt w' B L x := { h with plan := h.plan.below hb, dirs := h.dirs.below hb, cuts := h.cuts.below hb }
theorem TurnsAt.below {w w' : World} {B : Nat} {A : Option Addr} {n : Nat} {ts : List PTurn} (h : TurnsAt w B A n ts) (hb : Below B w w') : TurnsAt w' B A n ts :=
  ⟨h.len, fun k x hx => by
    obtain ⟨b, off, L, e, hlt, hc, ht⟩ := h.at_ k x hx
    exact ⟨b, off, L, e, hlt, fun j u hu => (hb.cell (p := ⟨b, off + k * 21 + j, none⟩) hlt).trans (hc j u hu), ht.below hb⟩⟩
theorem turnCells_length (x : PTurn) (L : TLay) (h : x.lab.st.length = 8) : (turnCells x L).length = 21 := by
  unfold turnCells
  rw [List.length_append, Array.length_toList, labCells_size x.lab h]; rfl
theorem turnSize : (Tryz.prog.info? 61).map (·.size) = some 21 := by kernel_rfl
/-- The last eight cells of a box. -/
theorem turn_cell {w : World} {g : Nat} {t : TypeId} {x : PTurn} {L : TLay} (h8 : x.lab.st.length = 8) (hb : Blk w g t (turnCells x L).toArray) : w.cell? ⟨g, 13, none⟩ = some (.slice L.pp x.plan.length L.cp) ∧ w.cell? ⟨g, 14, none⟩ = some (.bool x.away) ∧ w.cell? ⟨g, 15, none⟩ = some (.bool x.fused) ∧ w.cell? ⟨g, 16, none⟩ = some (.int .i64 x.call) ∧ w.cell? ⟨g, 17, none⟩ = some (.int .i64 x.inside) ∧ w.cell? ⟨g, 18, none⟩ = some (.bool x.lost) ∧ w.cell? ⟨g, 19, none⟩ = some (.slice L.pr x.dirs.length L.cr) ∧ w.cell? ⟨g, 20, none⟩ = some (.slice L.pc x.cuts.length L.cc) := by
  have hl : (labCells x.lab).toList.length = 13 := by rw [Array.length_toList, labCells_size x.lab h8]
  have key : ∀ j, 13 ≤ j → w.cell? ⟨g, j, none⟩ = ([.slice L.pp x.plan.length L.cp, .bool x.away, .bool x.fused, .int .i64 x.call, .int .i64 x.inside, .bool x.lost, .slice L.pr x.dirs.length L.cr, .slice L.pc x.cuts.length L.cc] : List Value)[j - 13]? := fun j hj => by
    rw [hb.cell, List.getElem?_toArray]
    unfold turnCells
    rw [List.getElem?_append_right (by omega), hl]
  exact ⟨key 13 (by omega), key 14 (by omega), key 15 (by omega), key 16 (by omega), key 17 (by omega), key 18 (by omega), key 19 (by omega), key 20 (by omega)⟩
theorem turn_lab {w : World} {g : Nat} {t : TypeId} {x : PTurn} {L : TLay} (h8 : x.lab.st.length = 8) (hb : Blk w g t (turnCells x L).toArray) : (loadVar 27 ⟨g, 0, none⟩).run Tryz.prog w = .ok (labV x.lab) w := by
  have e : (turnCells x L).toArray = (([] : List Value) ++ (labCells x.lab).toList ++ ([.slice L.pp x.plan.length L.cp, .bool x.away, .bool x.fused, .int .i64 x.call, .int .i64 x.inside, .bool x.lost, .slice L.pr x.dirs.length L.cr, .slice L.pc x.cuts.length L.cc] : List Value)).toArray := by unfold turnCells; rw [List.nil_append]
  rw [e] at hb
  have h := run_loadVar_mid (P := Tryz.prog) 27 hb Tryz.underlying27 labSize rfl (by rw [Array.length_toList, labCells_size x.lab h8])
  rw [Array.toArray_toList] at h
  exact h
theorem load_turn {w : World} {b off k : Nat} {x : PTurn} {L : TLay} (h8 : x.lab.st.length = 8) (hc : ∀ j u, (turnCells x L)[j]? = some u → w.cell? ⟨b, off + k * 21 + j, none⟩ = some u) : (loadVar 61 ⟨b, off + k * 21, none⟩).run Tryz.prog w = .ok (.agg (turnCells x L).toArray) w :=
  run_loadVar_cells 61 ⟨b, off + k * 21, none⟩ Tryz.underlying61 turnSize (turnCells x L).toArray (by simp [turnCells_length x L h8]) fun j v hv => by
    rw [add_plain]; exact hc j v (by simpa using hv)
theorem turnCells_one (x : PTurn) (L : TLay) : ∀ v ∈ (turnCells x L).toArray.toList, v.oneCell' = true := by
  intro v hv
  unfold turnCells at hv
  simp only [List.mem_append, List.mem_cons, List.not_mem_nil, or_false] at hv
  rcases hv with hv | rfl | rfl | rfl | rfl | rfl | rfl | rfl | rfl
  · exact labCells_one x.lab v hv
  all_goals rfl
theorem store_turn {w : World} {g : Nat} {t : TypeId} {cur : Array Value} {x : PTurn} {L : TLay} (h8 : x.lab.st.length = 8) (hb : Blk w g t cur) (hc : cur.size = 21) :
    ∃ w', (storeVar 61 ⟨g, 0, none⟩ (.agg (turnCells x L).toArray)).run Tryz.prog w = .ok () w' ∧ Blk w' g t (turnCells x L).toArray ∧ Touch (· = g) w w' ∧ w'.heap.size = w.heap.size :=
  run_storeVar_whole 61 hb (by rw [turnSize]; simp [turnCells_length x L h8]) (by simp [turnCells_length x L h8, hc]) (turnCells_one x L)
end Go.Proofs.YtdiaihpilniikaaGreat

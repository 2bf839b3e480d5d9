/- Any act, in a world of one drive.; A step that is an act; any step. (Printed by gen_Sj.py.); A place's world is a kept one. No program. -/
import Derived.Test.YtdmcjomcbhdcbaaGreatM36
namespace Go.Proofs.YtdmcjomcbhdcbaaGreat
open Go.RowKit Go.Maps

/-- What an act names. -/
structure ActIn (w : World) (h : Nat) (Av : Nat → Prop) (x : PAct) (L : ALay) : Prop where
  pr : Reads w w.heap.size 2 L.pa x.plan.length (planCells x.plan)
  pa : ∀ ad, L.pa = some ad → 0 < x.plan.length → ad.block < h ∨ Av ad.block
  pn : x.plan.length ≤ 1099511627776
  dr : Reads w w.heap.size 1 L.da x.data.length (x.data.map B8)
  da : ∀ ad, L.da = some ad → 0 < x.data.length → ad.block < h ∨ Av ad.block
  dn : x.data.length ≤ 1099511627776
  dc : x.data.length ≤ L.dc
  rr : x.round ≤ 9223372036854775807
  ft : ∃ pr nd cr dirs pcu nc cc cuts, FateLow w h Av L.fa L.fn L.fc pr nd cr dirs pcu nc cc cuts ∧ nc ≤ 1099511627776
theorem ActIn.below {w V : World} {h : Nat} {Av : Nat → Prop} {x : PAct} {L : ALay} (hi : ActIn w h Av x L) (hb : Below w.heap.size w V) (G : Nat → Prop) : ActIn V h (fun k => Av k ∨ G k) x L where
  pr := (hi.pr.below hb).more hb.size
  pa := fun ad e h0 => by rcases hi.pa ad e h0 with h | h; exact .inl h; exact .inr (.inl h)
  pn := hi.pn
  dr := (hi.dr.below hb).more hb.size
  da := fun ad e h0 => by rcases hi.da ad e h0 with h | h; exact .inl h; exact .inr (.inl h)
  dn := hi.dn
  dc := hi.dc
  rr := hi.rr
  ft := by
    obtain ⟨pr, nd, cr, dirs, pcu, nc, cc, cuts, h1, h2⟩ := hi.ft
    exact ⟨pr, nd, cr, dirs, pcu, nc, cc, cuts, h1.below hb G, h2⟩
end Go.Proofs.YtdmcjomcbhdcbaaGreat
namespace Go.Proofs.YtdmcjomcbhdcbaaGreat
open Go.RowKit Go.Maps

end Go.Proofs.YtdmcjomcbhdcbaaGreat
namespace Go.Proofs.YtdmcjomcbhdcbaaGreat
open Go.RowKit Go.Maps

theorem loadStep_bodies (S : Drv) (f : File) : (S.loadStep f).bodies.length = S.bodies.length + 1 := by
  unfold Drv.loadStep
  simp
theorem loadK_bodies : ∀ (fs : List File) (S : Drv), (S.loadK fs).bodies.length = S.bodies.length + fs.length
  | [], S => rfl
  | f :: r, S => by
    have h := loadK_bodies r (S.loadStep f)
    rw [loadStep_bodies] at h
    show ((S.loadStep f).loadK r).bodies.length = _
    rw [h, List.length_cons]
    omega
theorem place_keptM (x : PPlace) (hp : x.plan.length ≤ 8796093021952) (hr : x.round ≤ 9223372036854775807) (hok : x.ok = true) (hf : x.files.length + 5 ≤ 1073741824) (hb : ∀ f ∈ x.files, f.2.length ≤ 1073741824) : KeptM x.wnd x.drv 0 x.files.length x.room.toNat := by
  have hlo : loadOk x.room x.files = true := by
    unfold PPlace.ok at hok
    simp only [Bool.and_eq_true] at hok
    exact hok.2
  unfold loadOk at hlo
  simp only [Bool.and_eq_true, decide_eq_true_eq] at hlo
  obtain ⟨⟨h0, h1⟩, hl⟩ := hlo
  have h := loadK_facts x.files (Drv.new x.room.toNat) 0 (Drv.new_inv _ 0 (by omega) (by omega)) rfl rfl (fun i hi => absurd hi (by simp [Drv.new])) hl hb (by omega)
  rw [Nat.zero_add] at h
  have hw : x.wnd.Okn 0 := by
    have h1 := (Wnd.Okn.new.arm x.plan hp).away x.off
    unfold PPlace.wnd
    split
    · exact h1.fused _ _ _ hr
    · exact h1
  have hl : x.drv.bodies.length = x.files.length := by
    show ((Drv.new x.room.toNat).loadK x.files).bodies.length = _
    rw [loadK_bodies]
    simp [Drv.new]
  refine ⟨⟨hw, h.1, h.2.2.2.2⟩, ⟨by rw [hl]; omega, fun s i hs => ?_, fun c hc => ?_⟩⟩
  · have hs' : dget ((Drv.new x.room.toNat).loadK x.files).now s = some i := by rw [← h.2.2.1]; exact hs
    exact h.1.rlt i (refs_mem h.1.tnow hs')
  · have : c ∈ ([] : List (List Stp)) := by rw [← h.2.1]; exact hc
    cases this
end Go.Proofs.YtdmcjomcbhdcbaaGreat

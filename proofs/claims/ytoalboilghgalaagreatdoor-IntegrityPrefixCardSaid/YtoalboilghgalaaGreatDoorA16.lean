/- Lemmas for this claim, in parts: Tnew. -/
import Derived.Test.YtoalboilghgalaaGreatDoorA15
import Derived.Carry
/- table.New. -/
namespace Go.Proofs.YtoalboilghgalaaGreatDoor
open Go.RowKit
open Go.Proofs.Dc (V Ds Ky)
attribute [local go_sem] run_store_float

set_option maxRecDepth 100000 in
set_option maxHeartbeats 4000000 in
theorem tnew_any (w : World) : Calls Tryz.prog 136 #[] w fun e w' => ∃ tb mb, e = .returned (.pointer (some ⟨tb, 0, none⟩)) ∧ w.heap.size ≤ tb ∧ w.heap.size ≤ mb ∧ TabSt w.heap.size w' tb (.slice none 0 0) mb [] ∧ Below w.heap.size w w' := by
  have hm := fun w => run_makeMap (P := Tryz.prog) 227 w
  go_enter Tryz.func136, Tryz.ntmps136
  go_wp2
  go_ret
  have h1 := Blk.new (w.alloc (.map #[] 0)) (tArr (.slice none 0 0) w.heap.size 0) 229
  rw [World.size_alloc] at h1
  refine ⟨w.heap.size + 1, w.heap.size, rfl, by omega, Nat.le_refl _, ⟨h1, ⟨rfl, .inl ⟨rfl, rfl⟩⟩, ⟨#[], 0, ?_, rfl⟩, by simp⟩, two _ _ _⟩
  exact (Below.heap_alloc _ _ _ (by simp)).trans (heap_alloc_new w _)

end Go.Proofs.YtoalboilghgalaaGreatDoor

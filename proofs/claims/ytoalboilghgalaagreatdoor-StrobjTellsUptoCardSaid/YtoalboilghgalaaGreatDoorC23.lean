/- Lemmas for this claim, in parts: Smeth. -/
import Derived.Test.YtoalboilghgalaaGreatDoorC09
set_option maxRecDepth 100000
set_option maxHeartbeats 4000000
set_option linter.unusedVariables false
set_option linter.unusedSimpArgs false
/- A String object's methods, as they are looked up. -/
namespace Go.Proofs.YtoalboilghgalaaGreatDoor
open Go.RowKit
open Go.Proofs.Dc (V Ds Ky)
theorem byte107 : byteOfCell Tryz.prog Tryz.prog.depth 107 0 = some 0 := by kernel_rfl
theorem cells107 : Tryz.prog.cellsOf 107 = 2 := by kernel_rfl
theorem run_byteOf107 {W : World} {b : Nat} {C : Array Value} (h : Blk W b C 107) : (byteOf ⟨b, 0, none⟩).run Tryz.prog W = .ok 0 W := by
  have hs : W.shape? b = some (107, C.size) := by unfold Blk at h; simp [World.shape?, h]
  unfold byteOf noView viewAt
  simp [shape, program, Sem.run, hs, cells107, byte107]
theorem run_part107 {W : World} {b : Nat} {C : Array Value} (h : Blk W b C 107) : (partAt ⟨b, 0, none⟩ 0 0).run Tryz.prog W = .ok ⟨b, 0, none⟩ W := by
  unfold partAt
  simp only [Sem.run_bind, run_byteOf107 h, Result.andThen_ok, Sem.run_pure, Nat.add_zero, if_true]
theorem run_follow107 {W : World} {xb : Nat} {C : Array Value} (h : Blk W xb C 107) : (follow [{ struct := 107, index := 0, deref := true }] 103 (.val (.pointer (some ⟨xb, 0, none⟩)))).run Tryz.prog W = .ok (105, .var ⟨xb, 0, none⟩) W := by
  have ha : (asAddr (.pointer (some ⟨xb, 0, none⟩))).run Tryz.prog W = .ok ⟨xb, 0, none⟩ W := by kernel_rfl
  unfold follow
  simp only [Sem.run_bind, run_underlying Tryz.underlying107, Result.andThen_ok]
  simp [Place.get, ha, fieldPlace, run_part107 h, follow]
theorem run_recv105 (xb : Nat) (W : World) : (receiverAt 105 (.var ⟨xb, 0, none⟩) false none).run Tryz.prog W = .ok (.agg #[]) W := by kernel_rfl
theorem run_prom {W : World} {xb : Nat} {C : Array Value} (h : Blk W xb C 107) (nm : String) (f : FuncId)
    (hf : ((Tryz.prog.info? 103).get!.methods.find? (·.name == nm)).map (fun m => (m.path, m.func)) = some (#[{ struct := 107, index := 0, deref := true }], some (f, false))) :
    (method 451 103 (.pointer (some ⟨xb, 0, none⟩)) nm).run Tryz.prog W = .ok (f, .agg #[]) W := by
  have hi : (typeInfo 103).run Tryz.prog W = .ok (Tryz.prog.info? 103).get! W := by kernel_rfl
  unfold method
  rw [Sem.run_bind, hi]
  simp only [Result.andThen_ok]
  cases hm : (Tryz.prog.info? 103).get!.methods.find? (·.name == nm) with
  | none => rw [hm] at hf; cases hf
  | some m =>
    rw [hm] at hf
    simp only [Option.map_some, Option.some.injEq, Prod.mk.injEq] at hf
    obtain ⟨h1, h2⟩ := hf
    simp only [h1, h2, Sem.run_bind, run_follow107 h, Result.andThen_ok]
    simp [run_recv105]
theorem sSet {W : World} {xb : Nat} {C : Array Value} (h : Blk W xb C 107) : (method 451 103 (.pointer (some ⟨xb, 0, none⟩)) "Set").run Tryz.prog W = .ok (216, .agg #[]) W := run_prom h _ _ (by kernel_rfl)
theorem sGet {W : World} {xb : Nat} {C : Array Value} (h : Blk W xb C 107) : (method 451 103 (.pointer (some ⟨xb, 0, none⟩)) "Get").run Tryz.prog W = .ok (209, .agg #[]) W := run_prom h _ _ (by kernel_rfl)
theorem sDelete {W : World} {xb : Nat} {C : Array Value} (h : Blk W xb C 107) : (method 451 103 (.pointer (some ⟨xb, 0, none⟩)) "Delete").run Tryz.prog W = .ok (208, .agg #[]) W := run_prom h _ _ (by kernel_rfl)
theorem sPrev {W : World} {xb : Nat} {C : Array Value} (h : Blk W xb C 107) : (method 451 103 (.pointer (some ⟨xb, 0, none⟩)) "PreventExtensions").run Tryz.prog W = .ok (215, .agg #[]) W := run_prom h _ _ (by kernel_rfl)
theorem sGetOwn (xb : Nat) (w : World) : (method 451 103 (.pointer (some ⟨xb, 0, none⟩)) "GetOwnProperty").run Tryz.prog w = .ok (210, .pointer (some ⟨xb, 0, none⟩)) w := by kernel_rfl
theorem sDef (xb : Nat) (w : World) : (method 451 103 (.pointer (some ⟨xb, 0, none⟩)) "DefineOwnProperty").run Tryz.prog w = .ok (207, .pointer (some ⟨xb, 0, none⟩)) w := by kernel_rfl
theorem sKeys (xb : Nat) (w : World) : (method 451 103 (.pointer (some ⟨xb, 0, none⟩)) "OwnPropertyKeys").run Tryz.prog w = .ok (214, .pointer (some ⟨xb, 0, none⟩)) w := by kernel_rfl
end Go.Proofs.YtoalboilghgalaaGreatDoor

/- Lemmas for this claim, in parts: App. -/
import Derived.Test.YtoalboilghgalaaGreatDoorA16
import Derived.Deep.AppendLies
import Derived.Maps.AppendAt
import Derived.BigRegion
/- An append inside a region that draws its order: its value and its world by name. -/
namespace Go.Proofs.YtoalboilghgalaaGreatDoor
open Go.RowKit
open Go.Proofs.Dc (V Ds Ky)
attribute [local go_sem] run_store_float

/-- the append goes through -/
def AppOk (t ty : TypeId) (W : World) (sv xv : Value) : Prop := ∃ r : Value × World, (Builtin.append_ #[t, t] ty #[sv, xv]).run Tryz.prog W = .ok r.1 r.2
open Classical in
/-- .. its value and its world -/
noncomputable def app (t ty : TypeId) (W : World) (sv xv : Value) : Value × World := if h : AppOk t ty W sv xv then Classical.choose h else (.nilIface, W)
noncomputable def appV (t ty : TypeId) (W : World) (sv xv : Value) : Value := (app t ty W sv xv).1
noncomputable def appW (t ty : TypeId) (W : World) (sv xv : Value) : World := (app t ty W sv xv).2
theorem app_run {t ty : TypeId} {W : World} {sv xv : Value} (h : AppOk t ty W sv xv) : (Builtin.append_ #[t, t] ty #[sv, xv]).run Tryz.prog W = .ok (appV t ty W sv xv) (appW t ty W sv xv) := by
  have := Classical.choose_spec h
  unfold appV appW app
  rw [dif_pos h]
  exact this
theorem app_is {t ty : TypeId} {W W' : World} {sv xv v : Value} (h : (Builtin.append_ #[t, t] ty #[sv, xv]).run Tryz.prog W = .ok v W') : AppOk t ty W sv xv ∧ appV t ty W sv xv = v ∧ appW t ty W sv xv = W' := by
  have h0 : AppOk t ty W sv xv := ⟨(v, W'), h⟩
  have h1 := app_run h0
  rw [h] at h1
  simp only [Result.ok.injEq] at h1
  exact ⟨h0, h1.1.symm, h1.2.symm⟩

/-- an append from the values that its slots hold -/
def AppAt (o : Oper) (t : TypeId) (sv xv : Value) (A : Act) (W : World) (K : Act → World → Prop) (Q : Exit → Act → World → Prop) : Prop :=
  Oper.upon Tryz.prog o A K Q (((Builtin.append_ #[t, t] o.type #[sv, xv]).run Tryz.prog W).andThen fun v w' => .ok (Next.value v) w')

theorem app_op {dst : Option Nat} {s x : Operand} {t ty : TypeId} {pos : String} {af : Array Edge} {gd : Option (Nat × Bool)} {A : Act} {W : World} {K : Act → World → Prop} {Q : Exit → Act → World → Prop} :
    Oper.wp Tryz.prog ⟨dst, .call { callee := .builtin .append, args := #[s, x], argTypes := #[t, t] }, ty, pos, af, gd⟩ A W K Q = AppAt ⟨dst, .call { callee := .builtin .append, args := #[s, x], argTypes := #[t, t] }, ty, pos, af, gd⟩ t (A.eval s) (A.eval x) A W K Q := by
  unfold Oper.wp execOp AppAt
  simp only [resolve, invoke, builtin, Sem.run_bind, Sem.run_pure, Result.andThen_ok, List.map_toArray, List.map_cons, List.map_nil]
theorem app_at {o : Oper} {t : TypeId} {sv xv : Value} {A : Act} {W : World} {K : Act → World → Prop} {Q : Exit → Act → World → Prop} (h : AppOk t o.type W sv xv) : AppAt o t sv xv A W K Q = K (A.put o.dst (appV t o.type W sv xv)) (appW t o.type W sv xv) := by
  unfold AppAt
  rw [app_run h]
  rfl

end Go.Proofs.YtoalboilghgalaaGreatDoor

/- Lemmas for this claim, in parts: Arg0. -/
import Derived.Test.YtoalboilghgalaaGreatDoorC34
set_option maxRecDepth 100000
set_option maxHeartbeats 4000000
set_option linter.unusedVariables false
set_option linter.unusedSimpArgs false
/- The caller's list of properties. -/
namespace Go.Proofs.YtoalboilghgalaaGreatDoor
open Go.RowKit
open Go.Proofs.Dc (V Ds Ky)

/-- the caller's list of properties, below n0 -/
def ArgAt (n0 : Nat) (W : World) (A : Option Addr) (ps : List (Ky × Ds)) : Prop := ∀ i, (h : i < ps.length) → ∃ b off, A = some ⟨b, off, none⟩ ∧ b < n0 ∧ b < W.heap.size ∧ W.rangeAt b (off + i * 20) (pCells ps[i])
theorem ArgAt.below {n0 : Nat} {W W' : World} {A : Option Addr} {ps : List (Ky × Ds)} (h : ArgAt n0 W A ps) (hb : Below n0 W W') : ArgAt n0 W' A ps := fun i hi => by
  obtain ⟨b, off, h1, h2, h3, h4⟩ := h i hi
  exact ⟨b, off, h1, h2, Nat.lt_of_lt_of_le h3 hb.size, fun j v hv => (World.cell?_of_block (w := W) (a := ⟨b, _, none⟩) (hb.block b h2)).trans (h4 j v hv)⟩
theorem range_sub {W : World} {b o : Nat} {cs ds : List Value} (h : W.rangeAt b o cs) (k : Nat) (hk : ∀ j, j < ds.length → cs[k + j]? = ds[j]?) : W.rangeAt b (o + k) ds := fun j v hv => by
  have hj := (List.getElem?_eq_some_iff.1 hv).1
  rw [Nat.add_assoc]
  exact h (k + j) v ((hk j hj).trans hv)
theorem arg_key {W : World} {b o : Nat} {x : Ky × Ds} (h : W.rangeAt b o (pCells x)) : W.rangeAt b o [.string x.1.str, .int .i64 x.1.sym] := fun j v hv => by
  have hj : j < 2 := (List.getElem?_eq_some_iff.1 hv).1
  refine h j v ?_
  match j, hj with
  | 0, _ => exact hv
  | 1, _ => exact hv
theorem arg_desc {W : World} {b o : Nat} {x : Ky × Ds} (h : W.rangeAt b o (pCells x)) : W.rangeAt b (o + 2) [.int .i64 x.2.val.kind, .bool x.2.val.bool, .float .f64 x.2.val.num, .string x.2.val.str, .int .i64 x.2.val.id, .int .i64 x.2.get.kind, .bool x.2.get.bool, .float .f64 x.2.get.num, .string x.2.get.str, .int .i64 x.2.get.id, .int .i64 x.2.set.kind, .bool x.2.set.bool, .float .f64 x.2.set.num, .string x.2.set.str, .int .i64 x.2.set.id, .int .i64 x.2.w, .int .i64 x.2.e, .int .i64 x.2.c] := range_sub h 2 fun j _ => by
  rw [Nat.add_comm]; rfl

end Go.Proofs.YtoalboilghgalaaGreatDoor

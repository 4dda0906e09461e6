import Derived.Test.YtkkcacpcicnihaaRsame
import Derived.Laws.OwnMore
import Derived.Maps.AppendAt
import Derived.Deep.MidRow
namespace Go.Proofs.Ytkkcacpcicnihaa
open Go.RowKit
open Go.Proofs.Cl

theorem Try.info25 : (Try.prog.info? 25).map (fun i => (i.zero, i.size, i.bytes)) = some (some (.agg #[.int .i64 0, .bool false, .float .f64 0, .string ⟨#[]⟩, .int .i64 0]), 5, 48) := by kernel_rfl

/-- a value as it lies at a place -/
def ValAt (w : World) (b off : Nat) (v : V) : Prop :=
  w.cell? ⟨b, off, none⟩ = some (.int .i64 v.kind) ∧ w.cell? ⟨b, off + 1, none⟩ = some (.bool v.bool) ∧ w.cell? ⟨b, off + 2, none⟩ = some (.float .f64 v.num) ∧
    w.cell? ⟨b, off + 3, none⟩ = some (.string v.str) ∧ w.cell? ⟨b, off + 4, none⟩ = some (.int .i64 v.id)

/-- the cells of a property, from the first on -/
abbrev pCells (p : Pr) : List Value :=
  [.string p.kstr, .int .i64 p.ksym, .int .i64 p.d.val.kind, .bool p.d.val.bool, .float .f64 p.d.val.num, .string p.d.val.str, .int .i64 p.d.val.id,
   .int .i64 p.d.get.kind, .bool p.d.get.bool, .float .f64 p.d.get.num, .string p.d.get.str, .int .i64 p.d.get.id,
   .int .i64 p.d.set.kind, .bool p.d.set.bool, .float .f64 p.d.set.num, .string p.d.set.str, .int .i64 p.d.set.id, .int .i64 p.d.w, .int .i64 p.d.e, .int .i64 p.d.c]

def PropAt (w : World) (b off : Nat) (p : Pr) : Prop := w.rangeAt b off (pCells p)

theorem rangeAt_below {B b off : Nat} {w w' : World} {cs : List Value} (h : w.rangeAt b off cs) (hb : Below B w w') (hlt : b < B) : w'.rangeAt b off cs := fun j v hv => (hb.cell (p := ⟨b, off + j, none⟩) hlt).trans (h j v hv)
theorem PropAt.below {B b off : Nat} {w w' : World} {p : Pr} (h : PropAt w b off p) (hb : Below B w w') (hlt : b < B) : PropAt w' b off p := rangeAt_below h hb hlt

theorem setRow_alloc (w : World) (old cells : Array Value) (t : TypeId) : (w.alloc (.cells old t)).setRow w.heap.size cells = w.alloc (.cells cells t) := by
  show ({ (w.alloc (.cells old t)) with heap := _ } : World) = _
  simp only [World.alloc]
  congr 1
  apply Array.ext_getElem?
  intro i
  simp only [Array.getElem?_modify, Array.getElem?_push]
  by_cases h : i = w.heap.size
  · subst h; simp
  · simp [h, Ne.symm h]

/-- a store of a whole struct into the block that has just been made -/
theorem wpList_store_new {P : Program} {ops : Array Oper} {rest : List Oper} {o : Oper} {a : Act} {w : World} {Q : Exit → Act → World → Prop} (hgd : o.guard = none) (ty : TypeId) (x y : Operand) (ho : o.op = .store ty x y)
    (cells old : Array Value) (t : TypeId) (hx : a.eval x = .pointer (some ⟨w.heap.size, 0, none⟩)) (hy : a.eval y = .agg cells) (hi : (P.info? ty).map (·.size) = some cells.size)
    (hold : old.size = cells.size) (h1 : cells.all (·.oneCell') = true)
    (h : wpList P ops Q rest (a.put o.dst undef) (w.alloc (.cells cells t))) : wpList P ops Q (o :: rest) a (w.alloc (.cells old t)) :=
  wpList_store_row hgd ty x y ho w.heap.size cells hx hy t old (heap_alloc_new w _) hi hold h1 (by rw [setRow_alloc]; exact h)

/-- a slice's properties, as they lie there -/
def PropsAt (w : World) (A : Option Addr) (ps : List Pr) : Prop :=
  ∀ i, (h : i < ps.length) → ∃ b off, A = some ⟨b, off, none⟩ ∧ b < w.heap.size ∧ PropAt w b (off + i * 20) ps[i]

theorem PropsAt.below {w w' : World} {A : Option Addr} {ps : List Pr} (h : PropsAt w A ps) (hb : Below w.heap.size w w') : PropsAt w' A ps := fun i hi => by
  obtain ⟨b, off, hA, hlt, hc⟩ := h i hi
  exact ⟨b, off, hA, Nat.lt_of_lt_of_le hlt hb.size, hc.below hb hlt⟩

def vsCells (vs : List V) : List Value := vs.flatMap fun v => (vCells v).toList
theorem vsCells_append (a b : List V) : vsCells (a ++ b) = vsCells a ++ vsCells b := by simp [vsCells]
theorem vsCells_length (vs : List V) : (vsCells vs).length = vs.length * 5 := by
  induction vs with
  | nil => rfl
  | cons v vs ih => simp only [vsCells, List.flatMap_cons, List.length_append, List.length_cons] at *; rw [ih]; simp; omega

/-- what has been gathered behind k rounds -/
def leadsTo (s : Sh) (k : Nat) : List V := s.proto :: (s.props.take k).flatMap fun p => [p.d.val, p.d.get, p.d.set]
theorem leadsTo_succ (s : Sh) (k : Nat) (hk : k < s.props.length) : leadsTo s (k + 1) = leadsTo s k ++ [s.props[k].d.val, s.props[k].d.get, s.props[k].d.set] := by
  unfold leadsTo
  rw [List.take_succ_eq_append_getElem hk, List.flatMap_append]
  rfl
theorem leadsTo_all (s : Sh) : leadsTo s s.props.length = leadsOf s := by unfold leadsTo leadsOf; rw [List.take_length]
theorem leadsTo_length (s : Sh) (k : Nat) (hk : k ≤ s.props.length) : (leadsTo s k).length = 1 + 3 * k := by
  induction k with
  | zero => simp [leadsTo]
  | succ k ih => rw [leadsTo_succ s k (by omega), List.length_append, ih (by omega)]; simp; omega

abbrev shAgg (s : Sh) (A : Option Addr) (cap : Nat) : Value :=
  .agg #[.int .i64 s.cls, .int .i64 s.proto.kind, .bool s.proto.bool, .float .f64 s.proto.num, .string s.proto.str, .int .i64 s.proto.id, .bool s.ext, .slice A s.props.length cap]

theorem vsCells_one (vs : List V) : ∀ u ∈ vsCells vs, u.oneCell' = true := by
  intro u hu
  unfold vsCells at hu
  obtain ⟨v, _, hv⟩ := List.mem_flatMap.1 hu
  simp only [List.mem_cons, List.not_mem_nil, or_false] at hv
  rcases hv with rfl | rfl | rfl | rfl | rfl <;> rfl

theorem cell_row_new (X : World) (cs : Array Value) (t : TypeId) (b : Nat) (hb : b = X.heap.size) : ∀ (j : Nat) (u : Value), cs.toList[j]? = some u → (X.alloc (.cells cs t)).cell? ((⟨b, 0, none⟩ : Addr).add j) = some u := by
  intro j u hu
  subst hb
  have e : (⟨X.heap.size, 0, none⟩ : Addr).add j = ⟨X.heap.size, j, none⟩ := by unfold Addr.add; split <;> simp_all
  rw [e, cell_of_row _ _ _ _ _ _ (heap_alloc_new X (.cells cs t))]
  simpa using hu

/-- a slice of values of the call's own -/
def OwnsVals (w : World) (vs : List V) (e : Ending) (w' : World) : Prop := ∃ v, e = .returned v ∧ w'.ownsRow w.heap.size 25 5 v vs.length (vsCells vs) ∧ Below w.heap.size w w'

theorem pCells_one (p : Pr) : (pCells p).toArray.all (·.oneCell') = true := all_oneCell_toArray (by
  intro v hv
  simp only [List.mem_cons, List.not_mem_nil, or_false] at hv
  rcases hv with rfl | rfl | rfl | rfl | rfl | rfl | rfl | rfl | rfl | rfl | rfl | rfl | rfl | rfl | rfl | rfl | rfl | rfl | rfl | rfl <;> rfl)

attribute [local go_sem] store_float

set_option maxRecDepth 100000 in
set_option maxHeartbeats 4000000 in
theorem leads_any (s : Sh) (A : Option Addr) (cap : Nat) (w : World) (hreach : s.props.length * 192 ≤ 140737488351232) (hp : PropsAt w A s.props) :
    Calls Try.prog 19 #[shAgg s A cap] w (OwnsVals w (leadsOf s)) := by
  obtain ⟨i0, hi, hz0, hz1, hz2⟩ := info_parts Try.info25
  have HP := Lib.hid hp
  clear hp
  go_enter Try.func19, Try.ntmps19
  go_wp2
  go_loopw [3, 12] (fun v i wr => ∃ k : Nat, k ≤ s.props.length ∧ i = .int .i64 k ∧ wr.ownsRow w.heap.size 25 5 v (leadsTo s k).length (vsCells (leadsTo s k)) ∧ Below w.heap.size w wr)
    (fun _ i _ => s.props.length - (intOf i).toNat)
  case atStart =>
    refine ⟨0, Nat.zero_le _, rfl, ?_, below2 _ _ _⟩
    refine ⟨by simp [leadsTo, vsCells], Or.inr ⟨w.heap.size + 1, 1, vCells s.proto, rfl, by omega, ?_, Nat.le_refl _, by decide, rfl, rfl⟩⟩
    simpa using heap_alloc_new (w.alloc _) (.cells (vCells s.proto) 25)
  case round =>
    obtain ⟨k, hk, rfl, hown, hnx⟩ := hrel
    have hlen := leadsTo_length s k hk
    by_cases hlt : k < s.props.length
    · have hs := leadsTo_succ s k hlt
      obtain ⟨b, off, rfl, hbs, hpa⟩ := HP.out k hlt
      have hpa' := hpa.below hnx hbs
      generalize s.props[k] = p at *
      have HQ := Lib.hid hpa'
      have HS := Lib.hid hs
      have HO := Lib.hid hown
      have HX := Lib.hid hnx
      have HL := Lib.hid hlen
      clear hs hown hnx hlen hpa hpa'
      go_wp2_with (first
        | ((with_reducible show wpList _ _ _ (⟨some 15, .load _ _, _, _, _, _⟩ :: _) _ _); refine wpList_load_mid rfl 59 (.tmp 14) rfl b (off + k * 20) rfl (pCells p) _ HQ.out Try.underlying59 rfl (by kernel_rfl) ?_)
        | ((with_reducible show wpList _ _ _ (⟨_, .store 59 _ _, _, _, _, _⟩ :: _) _ _); refine wpList_store_new rfl 59 (.tmp 5) (.tmp 15) rfl (pCells p).toArray _ 59 rfl rfl (by kernel_rfl) rfl (pCells_one p) ?_)
        | (at_builtin; refine wpList_append_own_at _ rfl (.tmp 16) (.tmp 26) 26 rfl w.heap.size 25 i0 _ 5 48 Try.underlying26 hi hz0 hz1 hz2 rfl (by decide) _ _ _ rfl ((HO.out.alloc _).alloc _) ⟨wr.heap.size + 1, 0, none⟩ 3 3 (vsCells [p.d.val, p.d.get, p.d.set]) rfl (vsCells_length _) (cell_row_new (wr.alloc (.cells (pCells p).toArray 59)) (vsCells [p.d.val, p.d.get, p.d.set]).toArray 25 _ (by simp)) (vsCells_one _) ?c3 ?c4 ?c5 ?_))
      case c3 => have := HL.out; unfold maxLen; omega
      case c4 => have := HL.out; omega
      case c5 => have := HX.out.size; simp; omega
      intro v' w1 hown' hgrow _ hloc
      have hb1 := Lib.hid hown'
      have hb2 := Lib.hid hgrow
      have hb3 := Lib.hid hloc
      clear hown' hgrow hloc
      go_wp2
      go_roundw
      case rel =>
        refine ⟨k + 1, by omega, by go_num, ?_, ?_⟩
        · rw [HS.out, vsCells_append, List.length_append]
          exact hb1.out
        · refine ((HX.out.alloc HX.out.size _).alloc (by have := HX.out.size; simp; omega) _).grown hb2.out (by have := HX.out.size; simp; omega) ?_
          intro j hj
          exact (HO.out.lt j hj).1
      case measure => simp [intOf]; omega
    · have : k = s.props.length := by omega
      subst this
      rw [leadsTo_all] at hown
      have HO := Lib.hid hown
      have HX := Lib.hid hnx
      clear hown hnx hlen
      go_wp2
      go_ret
      exact ⟨_, rfl, HO.out, HX.out⟩

end Go.Proofs.Ytkkcacpcicnihaa

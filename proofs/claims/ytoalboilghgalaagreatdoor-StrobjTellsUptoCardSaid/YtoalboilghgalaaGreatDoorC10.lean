/- Lemmas for this claim, in parts: Later, Alike, Kind, Check, Equal, Fill, Complete, Whole, Barred. -/
import Derived.WalkKit
import Derived.WalkSmall
import Derived.BigQuiet
import Derived.Laws.Rows
import Derived.Test.YtoalboilghgalaaGreatDoorC09
set_option maxRecDepth 100000
set_option maxHeartbeats 4000000
set_option linter.unusedVariables false
set_option linter.unusedSimpArgs false
/- Regions that draw their order, whose operations read and whose callees make memory alone: one walk in the order of the text serves every order. -/
namespace Go.Proofs.Later
open Go.RowKit

/-- a world that is w0 with more memory -/
structure Later (w0 : World) where
  w : World
  ok : Below w0.heap.size w0 w

instance (w0 : World) : Nonempty (Later w0) := ⟨⟨w0, Below.refl _ _⟩⟩

theorem cell {w0 : World} {p : Addr} {v : Value} (h : w0.cell? p = some v) : ∀ z : Later w0, z.w.cell? p = some v := fun z =>
  (z.ok.cell (p := p) (block_lt_of_cell h)).trans h

theorem region {P : Program} {w0 : World} {id : Nat} {Q : Exit → Act → World → Prop} {a : Act} {l : List Oper} (hm : P.follows .mixedOrders = true) (hB : Region.lexB .any l.toArray = true)
    (h : wpQuiet P l.toArray (fun w' => ∃ z : Later w0, w' = z.w) (fun a' => ∀ w', (∃ z : Later w0, w' = z.w) → Q .normal a' w') l a) : (Code.region id l.toArray true).wp P Q a w0 :=
  wp_region_quiet (C := fun w' => ∃ z : Later w0, w' = z.w) hm hB ⟨⟨_, (Below.refl _ _).drew⟩, rfl⟩ (by simpa using h)

theorem call {P : Program} {w0 : World} {f : FuncId} {args : Array Value} {z : Later w0} {v : Value}
    (h : Calls P f args z.w fun e w' => e = .returned v ∧ Below z.w.heap.size z.w w') : Calls P f args z.w fun e w'' => e = .returned v ∧ ∃ z' : Later w0, w'' = z'.w :=
  h.mono fun _ w' ⟨he, hb⟩ => ⟨he, ⟨w', z.ok.trans (hb.mono z.ok.size)⟩, rfl⟩

theorem call_same {P : Program} {w0 : World} {f : FuncId} {args : Array Value} {z : Later w0} {v : Value}
    (h : Calls P f args z.w fun e w' => e = .returned v ∧ z.w = w') : Calls P f args z.w fun e w'' => e = .returned v ∧ ∃ z' : Later w0, w'' = z'.w :=
  h.mono fun _ _ ⟨he, hb⟩ => ⟨he, z, hb.symm⟩

end Go.Proofs.Later

/- desc.alike, desc.callable. -/
namespace Go.Proofs.YtoalboilghgalaaGreatDoor
open Go.RowKit
open Go.Proofs.Dc (V Ds Ky)
attribute [local go_sem] run_store_float

theorem later_blk {w0 : World} {b : Nat} {C : Array Value} {t : TypeId} (h : Blk w0 b C t) : ∀ (z : Later.Later w0) j, z.w.cell? ⟨b, j, none⟩ = C[j]? := fun z => (h.next z.ok).cell

set_option maxRecDepth 100000 in
set_option maxHeartbeats 2000000 in
theorem alike_any (a b : V) (w : World) (hT : Tabs w) (ha : a.num < 2 ^ 64) (hb : b.num < 2 ^ 64) : Calls Tryz.prog 249 #[vAgg a, vAgg b] w fun e w' => e = .returned (.bool (Dc.alike uvalid a b)) ∧ Below w.heap.size w w' := by
  have c1 := fun W => there_any a W
  have c2 := fun W => there_any b W
  have c3 := fun W (h : Below w.heap.size w W) => same_any a b W (hT.below h) ha hb
  have hA : Blk ((w.alloc (.cells (vCells a).toArray 36)).alloc (.cells (vCells b).toArray 36)) w.heap.size (vCells a).toArray 36 := (Blk.new w _ 36).alloc _
  have hB : Blk ((w.alloc (.cells (vCells a).toArray 36)).alloc (.cells (vCells b).toArray 36)) (w.heap.size + 1) (vCells b).toArray 36 := by
    have := Blk.new (w.alloc (.cells (vCells a).toArray 36)) (vCells b).toArray 36
    rwa [World.size_alloc] at this
  have h0 : Below w.heap.size w ((w.alloc (.cells (vCells a).toArray 36)).alloc (.cells (vCells b).toArray 36)) := two _ _ _
  unfold Dc.alike
  generalize (if Dc.good uvalid a && Dc.good uvalid b then (0 : Int) else 5) = Q at *
  generalize Dc.same uvalid a b = R at *
  clear hT ha hb
  have HA := Lib.hid hA
  have HB := Lib.hid hB
  clear hA hB
  cases t1 : Dc.there a
  · simp only [t1] at c1
    simp only [Bool.not_false, Bool.true_or, if_true]
    have C1 := Lib.hid c1
    have C2 := Lib.hid c2
    clear c1 c2 c3 t1
    generalize Dc.there b = T2 at *
    obtain ⟨k, c, x, s, i⟩ := a
    obtain ⟨k', c', x', s', i'⟩ := b
    go_enter Tryz.func249, Tryz.ntmps249
    go_wp2_with (first | (go_at_call_of 168 k; refine (C1.out _).mono ?_; rintro e w1 ⟨rfl, hb1⟩))
    have f1 := later_blk (HA.out.next hb1)
    have f2 := later_blk (HB.out.next hb1)
    refine Later.region (by kernel_rfl) (by kernel_rfl) ?_
    repeat (go_big_quiet_step (first | (go_at_call_of 168 k; with_reducible exact Later.call (C1.out _)) | (go_at_call_of 168 k'; with_reducible exact Later.call (C2.out _))))
    refine wpQuiet_nil ?_
    rintro _ ⟨⟨w2, hb2⟩, rfl⟩
    have HQ := Lib.hid (more (more h0 hb1) hb2)
    clear hb2
    go_wp2
    go_ret
    exact ⟨ret_b (by cases T2 <;> rfl), HQ.out⟩
  · simp only [t1] at c1
    cases t2 : Dc.there b
    · simp only [t2] at c2
      simp only [Bool.not_false, Bool.or_true, if_true]
      have C1 := Lib.hid c1
      have C2 := Lib.hid c2
      clear c1 c2 c3 t1 t2
      obtain ⟨k, c, x, s, i⟩ := a
      obtain ⟨k', c', x', s', i'⟩ := b
      go_enter Tryz.func249, Tryz.ntmps249
      go_wp2_with (first | (go_at_call_of 168 k; refine (C1.out _).mono ?_; rintro e w1 ⟨rfl, hb1⟩; have hK := (HB.out.next hb1).cell) | (go_at_call_of 168 k'; refine (C2.out _).mono ?_; rintro e w2 ⟨rfl, hb2⟩))
      have f1 := later_blk ((HA.out.next hb1).next hb2)
      have f2 := later_blk ((HB.out.next hb1).next hb2)
      clear hK
      refine Later.region (by kernel_rfl) (by kernel_rfl) ?_
      repeat (go_big_quiet_step (first | (go_at_call_of 168 k; with_reducible exact Later.call (C1.out _)) | (go_at_call_of 168 k'; with_reducible exact Later.call (C2.out _))))
      refine wpQuiet_nil ?_
      rintro _ ⟨⟨w3, hb3⟩, rfl⟩
      have HQ := Lib.hid (more (more (more h0 hb1) hb2) hb3)
      clear hb3
      go_wp2
      go_ret
      exact ⟨rfl, HQ.out⟩
    · simp only [t2] at c2
      simp only [Bool.not_true, Bool.or_self, Bool.false_eq_true, if_false]
      clear t1 t2
      obtain ⟨k, c, x, s, i⟩ := a
      obtain ⟨k', c', x', s', i'⟩ := b
      go_enter Tryz.func249, Tryz.ntmps249
      go_wp2_with (first | (go_at_call_of 168 k; refine (c1 _).mono ?_; rintro e w1 ⟨rfl, hb1⟩; have hK := (HB.out.next hb1).cell) | (go_at_call_of 168 k'; refine (c2 _).mono ?_; rintro e w2 ⟨rfl, hb2⟩; clear hK; have hK1 := ((HB.out.next hb1).next hb2).cell; have hK2 := ((HA.out.next hb1).next hb2).cell) | (go_at_call 230; refine (c3 _ (more (more h0 hb1) hb2)).mono ?_; rintro e w3 ⟨rfl, hb3⟩))
      go_ret
      exact ⟨rfl, more (more (more h0 hb1) hb2) hb3⟩

set_option maxRecDepth 100000 in
set_option maxHeartbeats 2000000 in
theorem callab_any (a : V) (w : World) (hT : Tabs w) (ha : a.num < 2 ^ 64) : Calls Tryz.prog 166 #[vAgg a] w fun e w' => e = .returned (.bool (Dc.callab uvalid a)) ∧ Below w.heap.size w w' := by
  have c1 := fun W => absent_any a W ha
  have c2 := fun W (h : Below w.heap.size w W) => check_any a W (hT.below h) ha
  have HA := Lib.hid (Blk.new w (vCells a).toArray 36)
  have hr : Dc.callab uvalid a = (Dc.absent a || (Dc.good uvalid a && (a.kind == 1 || a.kind == 7))) := rfl
  generalize Dc.callab uvalid a = R at *
  generalize Dc.absent a = A at *
  cases hg : Dc.good uvalid a <;> simp only [hg, Bool.false_eq_true, if_false, if_true] at c2 hr <;> have HR := Lib.hid hr <;> clear hr hg hT ha
  all_goals
    obtain ⟨k, c, x, s, i⟩ := a
    cases A
  all_goals
    go_enter Tryz.func166, Tryz.ntmps166
    go_wp2_with (first | (go_at_call 165; refine (c1 _).mono ?_; rintro e w1 ⟨rfl, hb1⟩; have hK1 := (HA.out.next hb1).cell) | (go_at_call 40; refine (c2 _ (more (one _ _) hb1)).mono ?_; rintro e w2 ⟨rfl, hb2⟩; have hK2 := ((HA.out.next hb1).next hb2).cell; clear hK1))
  all_goals go_ret
  all_goals refine ⟨ret_b (by rw [HR.out]; simp_all), ?_⟩
  all_goals first | exact more (more (one _ _) hb1) hb2 | exact more (one _ _) hb1

end Go.Proofs.YtoalboilghgalaaGreatDoor

/- desc.kind, desc.Check, desc.Accessor. -/
namespace Go.Proofs.YtoalboilghgalaaGreatDoor
open Go.RowKit
open Go.Proofs.Dc (V Ds Ky)
attribute [local go_sem] run_store_float

def dArr (d : Ds) : Array Value := #[.int .i64 d.val.kind, .bool d.val.bool, .float .f64 d.val.num, .string d.val.str, .int .i64 d.val.id, .int .i64 d.get.kind, .bool d.get.bool, .float .f64 d.get.num, .string d.get.str, .int .i64 d.get.id, .int .i64 d.set.kind, .bool d.set.bool, .float .f64 d.set.num, .string d.set.str, .int .i64 d.set.id, .int .i64 d.w, .int .i64 d.e, .int .i64 d.c]

theorem Blk.cellD {W : World} {b : Nat} {d : Ds} (h : Blk W b (dArr d) 43) : ∀ j, W.cell? ⟨b, j, none⟩ = #[.int .i64 d.val.kind, .bool d.val.bool, .float .f64 d.val.num, .string d.val.str, .int .i64 d.val.id, .int .i64 d.get.kind, .bool d.get.bool, .float .f64 d.get.num, .string d.get.str, .int .i64 d.get.id, .int .i64 d.set.kind, .bool d.set.bool, .float .f64 d.set.num, .string d.set.str, .int .i64 d.set.id, .int .i64 d.w, .int .i64 d.e, .int .i64 d.c][j]? := h.cell

/-- its numbers are of 64 bits -/
structure Nums (d : Ds) : Prop where
  val : d.val.num < 2 ^ 64
  get : d.get.num < 2 ^ 64
  set : d.set.num < 2 ^ 64

theorem ret_ib {a c : Int} {b d : Bool} (h : a = c) (h' : b = d) : Ending.returned (.tuple #[.int .i64 a, .bool b]) = .returned (.tuple #[.int .i64 c, .bool d]) := by rw [h, h']

theorem kind_any (d : Ds) (w : World) (hT : Tabs w) (hd : Nums d) : Calls Tryz.prog 139 #[.agg (dArr d)] w fun e w' => e = .returned (.tuple #[.int .i64 (Dc.kindN uvalid d : Nat), .bool (Dc.kindB uvalid d)]) ∧ Below w.heap.size w w' := by
  have cA := fun W => absent_any d.val W hd.val
  have cC := fun W (h : Below w.heap.size w W) => check_any d.val W (hT.below h) hd.val
  have cG := fun W (h : Below w.heap.size w W) => callab_any d.get W (hT.below h) hd.get
  have cS := fun W (h : Below w.heap.size w W) => callab_any d.set W (hT.below h) hd.set
  have cX := fun W => tri_any d.w W
  have cY := fun W => tri_any d.e W
  have cZ := fun W => tri_any d.c W
  have tV := fun W => there_any d.val W
  have tG := fun W => there_any d.get W
  have tS := fun W => there_any d.set W
  have hk : Dc.kindN uvalid d = if !Dc.formed uvalid d then 0 else if Dc.there d.val || d.w != 0 then 1 else if Dc.there d.get || Dc.there d.set then 2 else 0 := rfl
  have hb : Dc.kindB uvalid d = if !Dc.formed uvalid d then false else if Dc.there d.val || d.w != 0 then !(Dc.there d.get || Dc.there d.set) else true := rfl
  have hf : Dc.formed uvalid d = ((Dc.absent d.val || Dc.good uvalid d.val) && Dc.callab uvalid d.get && Dc.callab uvalid d.set && Dc.tri d.w && Dc.tri d.e && Dc.tri d.c) := rfl
  generalize Dc.kindN uvalid d = KN at *
  generalize Dc.kindB uvalid d = KB at *
  rw [hf] at hk hb
  clear hf hT hd
  generalize Dc.absent d.val = bA at *
  generalize Dc.good uvalid d.val = bC at *
  generalize Dc.callab uvalid d.get = bG at *
  generalize Dc.callab uvalid d.set = bS at *
  generalize Dc.tri d.w = bX at *
  generalize Dc.tri d.e = bY at *
  generalize Dc.tri d.c = bZ at *
  generalize Dc.there d.val = tv at *
  generalize Dc.there d.get = tg at *
  generalize Dc.there d.set = ts at *
  have HK := Lib.hid (And.intro hk hb)
  clear hk hb
  go_enter Tryz.func139, Tryz.ntmps139
  go_wp2_with (first | ((with_reducible show wpList _ _ _ (⟨_, .box 43 _, _, _, _, _⟩ :: _) _ _); refine wpList_box_blk rfl 43 _ rfl (dArr d) rfl ?_; intro w0 hB0 hL hs0; have hc := hB0.cellD; clear hs0) | (go_at_call 165; refine (cA _).mono ?_; rintro e u ⟨rfl, hb⟩; have hK := (show Blk _ w.heap.size (dArr d) 43 from by assumption).next hb; have hc := hK.cellD; have hL := more (show Below w.heap.size w _ from by assumption) hb) | (go_at_call 40; refine (cC _ (by assumption)).mono ?_; rintro e u ⟨rfl, hb⟩; have hK := (show Blk _ w.heap.size (dArr d) 43 from by assumption).next hb; have hc := hK.cellD; have hL := more (show Below w.heap.size w _ from by assumption) hb) | (go_at_call_of 166 d.get.kind; refine (cG _ (by assumption)).mono ?_; rintro e u ⟨rfl, hb⟩; have hK := (show Blk _ w.heap.size (dArr d) 43 from by assumption).next hb; have hc := hK.cellD; have hL := more (show Below w.heap.size w _ from by assumption) hb) | (go_at_call_of 166 d.set.kind; refine (cS _ (by assumption)).mono ?_; rintro e u ⟨rfl, hb⟩; have hK := (show Blk _ w.heap.size (dArr d) 43 from by assumption).next hb; have hc := hK.cellD; have hL := more (show Below w.heap.size w _ from by assumption) hb) | (go_at_call_of 167 d.w; refine (cX _).mono ?_; rintro e u ⟨rfl, rfl⟩) | (go_at_call_of 167 d.e; refine (cY _).mono ?_; rintro e u ⟨rfl, rfl⟩) | (go_at_call_of 167 d.c; refine (cZ _).mono ?_; rintro e u ⟨rfl, rfl⟩) | (go_at_call_of 168 d.val.kind; refine (tV _).mono ?_; rintro e u ⟨rfl, hb⟩; have hK := (show Blk _ w.heap.size (dArr d) 43 from by assumption).next hb; have hc := hK.cellD; have hL := more (show Below w.heap.size w _ from by assumption) hb) | (go_at_call_of 168 d.get.kind; refine (tG _).mono ?_; rintro e u ⟨rfl, hb⟩; have hK := (show Blk _ w.heap.size (dArr d) 43 from by assumption).next hb; have hc := hK.cellD; have hL := more (show Below w.heap.size w _ from by assumption) hb) | (go_at_call_of 168 d.set.kind; refine (tS _).mono ?_; rintro e u ⟨rfl, hb⟩; have hK := (show Blk _ w.heap.size (dArr d) 43 from by assumption).next hb; have hc := hK.cellD; have hL := more (show Below w.heap.size w _ from by assumption) hb))
  all_goals go_ret2
  all_goals refine ⟨ret_ib ?_ ?_, by assumption⟩
  all_goals first | rw [HK.out.1] | rw [HK.out.2]
  all_goals simp_all

end Go.Proofs.YtoalboilghgalaaGreatDoor

/- desc.Check, desc.is, desc.Accessor. -/
namespace Go.Proofs.YtoalboilghgalaaGreatDoor
open Go.RowKit
open Go.Proofs.Dc (V Ds Ky)
attribute [local go_sem] run_store_float

theorem Tryz.row43 : ∃ d, Tryz.prog.underlying 43 = some d ∧ d.isRow = true := ⟨_, Tryz.underlying43, rfl⟩
theorem Tryz.size43 : (Tryz.prog.info? 43).map (·.size) = some 18 := by kernel_rfl
theorem Tryz.row36 : ∃ d, Tryz.prog.underlying 36 = some d ∧ d.isRow = true := ⟨_, Tryz.underlying36, rfl⟩
theorem Tryz.size36 : (Tryz.prog.info? 36).map (·.size) = some 5 := by kernel_rfl

theorem dcheck_any (d : Ds) (w : World) (hT : Tabs w) (hd : Nums d) : Calls Tryz.prog 104 #[.agg (dArr d)] w fun e w' => e = .returned (.int .i64 (if Dc.kindB uvalid d then 0 else 5)) ∧ Below w.heap.size w w' := by
  have cK := fun W (h : Below w.heap.size w W) => kind_any d W (hT.below h) hd
  generalize Dc.kindN uvalid d = KN at *
  clear hT hd
  generalize Dc.kindB uvalid d = KB at *
  cases KB
  all_goals
    go_enter Tryz.func104, Tryz.ntmps104
    go_wp2_with (first | ((with_reducible show wpList _ _ _ (⟨_, .box 43 _, _, _, _, _⟩ :: _) _ _); refine wpList_box_blk rfl 43 _ rfl (dArr d) rfl ?_; intro w0 hB0 hL hs0; clear hs0) | ((with_reducible show wpList _ _ _ (⟨_, .load 43 _, _, _, _, _⟩ :: _) _ _); refine wpList_load_blk rfl 43 _ rfl (w.heap.size) rfl (show Blk _ (w.heap.size) (dArr d) 43 from by assumption) Tryz.row43 Tryz.size43 ?_) | (go_at_call 139; refine (cK _ (by assumption)).mono ?_; rintro e u ⟨rfl, hb⟩; have hK0 := (show Blk _ w.heap.size (dArr d) 43 from by assumption).next hb; have hc0 := hK0.cellD; have hL := more (show Below w.heap.size w _ from by assumption) hb))
    go_ret
    exact ⟨rfl, by assumption⟩

theorem is_any (d : Ds) (n : Nat) (w : World) (hT : Tabs w) (hd : Nums d) : Calls Tryz.prog 126 #[.agg (dArr d), .int .i64 (n : Nat)] w fun e w' => e = .returned (.bool (Dc.kindB uvalid d && Dc.kindN uvalid d == n)) ∧ Below w.heap.size w w' := by
  have cK := fun W (h : Below w.heap.size w W) => kind_any d W (hT.below h) hd
  generalize Dc.kindN uvalid d = KN at *
  clear hT hd
  generalize Dc.kindB uvalid d = KB at *
  have hq : ((KN : Int) == (n : Int)) = (KN == n) := by rw [Bool.eq_iff_iff]; simp; omega
  have HQ := Lib.hid hq
  clear hq
  cases KB
  all_goals
    go_enter Tryz.func126, Tryz.ntmps126
    go_wp2_with (first | ((with_reducible show wpList _ _ _ (⟨_, .box 43 _, _, _, _, _⟩ :: _) _ _); refine wpList_box_blk rfl 43 _ rfl (dArr d) rfl ?_; intro w0 hB0 hL hs0; clear hs0) | ((with_reducible show wpList _ _ _ (⟨_, .load 43 _, _, _, _, _⟩ :: _) _ _); refine wpList_load_blk rfl 43 _ rfl (w.heap.size) rfl (show Blk _ (w.heap.size) (dArr d) 43 from by assumption) Tryz.row43 Tryz.size43 ?_) | (go_at_call 139; refine (cK _ (by assumption)).mono ?_; rintro e u ⟨rfl, hb⟩; have hK0 := (show Blk _ w.heap.size (dArr d) 43 from by assumption).next hb; have hc0 := hK0.cellD; have hL := more (show Below w.heap.size w _ from by assumption) hb))
    go_ret
    exact ⟨ret_b (by simp [HQ.out]), by assumption⟩

theorem accessor_any (d : Ds) (w : World) (hT : Tabs w) (hd : Nums d) : Calls Tryz.prog 81 #[.agg (dArr d)] w fun e w' => e = .returned (.bool (Dc.kindB uvalid d && Dc.kindN uvalid d == 2)) ∧ Below w.heap.size w w' := by
  have cK := fun W (h : Below w.heap.size w W) => is_any d 2 W (hT.below h) hd
  clear hT hd
  generalize (Dc.kindB uvalid d && Dc.kindN uvalid d == 2) = R at *
  go_enter Tryz.func81, Tryz.ntmps81
  go_wp2_with (first | ((with_reducible show wpList _ _ _ (⟨_, .box 43 _, _, _, _, _⟩ :: _) _ _); refine wpList_box_blk rfl 43 _ rfl (dArr d) rfl ?_; intro w0 hB0 hL hs0; clear hs0) | ((with_reducible show wpList _ _ _ (⟨_, .load 43 _, _, _, _, _⟩ :: _) _ _); refine wpList_load_blk rfl 43 _ rfl (w.heap.size) rfl (show Blk _ (w.heap.size) (dArr d) 43 from by assumption) Tryz.row43 Tryz.size43 ?_) | (go_at_call 126; refine (cK _ (by assumption)).mono ?_; rintro e u ⟨rfl, hb⟩; have hK0 := (show Blk _ w.heap.size (dArr d) 43 from by assumption).next hb; have hc0 := hK0.cellD; have hL := more (show Below w.heap.size w _ from by assumption) hb))
  go_ret
  exact ⟨rfl, by assumption⟩

end Go.Proofs.YtoalboilghgalaaGreatDoor

/- desc.equal, desc.zero. -/
namespace Go.Proofs.YtoalboilghgalaaGreatDoor
open Go.RowKit
open Go.Proofs.Dc (V Ds Ky)
attribute [local go_sem] run_store_float

theorem equal_any (a b : Ds) (w : World) (hT : Tabs w) (ha : Nums a) (hb : Nums b) : Calls Tryz.prog 247 #[.agg (dArr a), .agg (dArr b)] w fun e w' => e = .returned (.bool (Dc.equal uvalid a b)) ∧ Below w.heap.size w w' := by
  have cV := fun W (h : Below w.heap.size w W) => alike_any a.val b.val W (hT.below h) ha.val hb.val
  have cG := fun W (h : Below w.heap.size w W) => alike_any a.get b.get W (hT.below h) ha.get hb.get
  have cS := fun W (h : Below w.heap.size w W) => alike_any a.set b.set W (hT.below h) ha.set hb.set
  have hr : Dc.equal uvalid a b = (a.w == b.w && a.e == b.e && a.c == b.c && Dc.alike uvalid a.val b.val && Dc.alike uvalid a.get b.get && Dc.alike uvalid a.set b.set) := rfl
  generalize Dc.equal uvalid a b = R at *
  generalize Dc.alike uvalid a.val b.val = R1 at *
  generalize Dc.alike uvalid a.get b.get = R2 at *
  generalize Dc.alike uvalid a.set b.set = R3 at *
  have HR := Lib.hid hr
  clear hr hT ha hb
  go_enter Tryz.func247, Tryz.ntmps247
  go_wp2_with (first | ((with_reducible show wpList _ _ _ (⟨some 2, .box 43 _, _, _, _, _⟩ :: _) _ _); refine wpList_box_blk rfl 43 _ rfl (dArr a) rfl ?_; intro w0 hA hLA hsA) | ((with_reducible show wpList _ _ _ (⟨some 3, .box 43 _, _, _, _, _⟩ :: _) _ _); refine wpList_box_blk rfl 43 _ rfl (dArr b) rfl ?_; intro w1 hB hLB hsB; have hA1 := hA.next hLB; have hL := more hLA hLB; rw [hsA] at hB; have hc0 := hA1.cellD; have hc1 := hB.cellD; clear hsB) | (go_at_call_of 249 a.val.kind; refine (cV _ (by assumption)).mono ?_; rintro e u ⟨rfl, hb⟩; have hK0 := (show Blk _ w.heap.size (dArr a) 43 from by assumption).next hb; have hc0 := hK0.cellD; have hK1 := (show Blk _ (w.heap.size + 1) (dArr b) 43 from by assumption).next hb; have hc1 := hK1.cellD; have hL := more (show Below w.heap.size w _ from by assumption) hb) | (go_at_call_of 249 a.get.kind; refine (cG _ (by assumption)).mono ?_; rintro e u ⟨rfl, hb⟩; have hK0 := (show Blk _ w.heap.size (dArr a) 43 from by assumption).next hb; have hc0 := hK0.cellD; have hK1 := (show Blk _ (w.heap.size + 1) (dArr b) 43 from by assumption).next hb; have hc1 := hK1.cellD; have hL := more (show Below w.heap.size w _ from by assumption) hb) | (go_at_call_of 249 a.set.kind; refine (cS _ (by assumption)).mono ?_; rintro e u ⟨rfl, hb⟩; have hK0 := (show Blk _ w.heap.size (dArr a) 43 from by assumption).next hb; have hc0 := hK0.cellD; have hK1 := (show Blk _ (w.heap.size + 1) (dArr b) 43 from by assumption).next hb; have hc1 := hK1.cellD; have hL := more (show Below w.heap.size w _ from by assumption) hb))
  all_goals go_ret
  all_goals refine ⟨ret_b (by rw [HR.out]; simp_all), by assumption⟩

theorem eql_d0 (d : Ds) (w : World) : (binOp .eql 43 (.agg (dArr d)) (.agg #[.int .i64 0, .bool false, .float .f64 0, .string ⟨#[]⟩, .int .i64 0, .int .i64 0, .bool false, .float .f64 0, .string ⟨#[]⟩, .int .i64 0, .int .i64 0, .bool false, .float .f64 0, .string ⟨#[]⟩, .int .i64 0, .int .i64 0, .int .i64 0, .int .i64 0])).run Tryz.prog w
      = .ok (.bool (deq0 d Dc.d0)) w := eql_d d Dc.d0 w
attribute [local go_sem ↓] eql_d0

theorem zero_false {d : Ds} (h : deq0 d Dc.d0 = false) : Dc.zero d = false := by
  cases hz : Dc.zero d
  · rfl
  · simp only [Dc.zero, Bool.and_eq_true] at hz
    obtain ⟨⟨⟨⟨⟨h1, h2⟩, h3⟩, h4⟩, h5⟩, h6⟩ := hz
    have ab : ∀ {v : V}, Dc.absent v = true → veq v Dc.v0 = true := fun {v} h => by
      cases hq : veq v Dc.v0
      · rw [veq_zero_not hq] at h; cases h
      · rfl
    simp only [deq0, Dc.d0, ab h4, ab h5, ab h6, Bool.true_and] at h
    simp [h1, h2, h3] at h
theorem zero_true {d : Ds} (h : deq0 d Dc.d0 = true) : Dc.zero d = (Dc.absent d.val && Dc.absent d.get && Dc.absent d.set) := by
  simp only [deq0, Dc.d0, Bool.and_eq_true] at h
  obtain ⟨_, _, _, h1, h2, h3⟩ := h
  simp [Dc.zero, h1, h2, h3]

theorem zero_any (d : Ds) (w : World) (hd : Nums d) : Calls Tryz.prog 234 #[.agg (dArr d)] w fun e w' => e = .returned (.bool (Dc.zero d)) ∧ Below w.heap.size w w' := by
  have cV := fun W => absent_any d.val W hd.val
  have cG := fun W => absent_any d.get W hd.get
  have cS := fun W => absent_any d.set W hd.set
  cases hq : deq0 d Dc.d0
  · have hz := zero_false hq
    rw [hz]
    clear hz cV cG cS hd
    go_enter Tryz.func234, Tryz.ntmps234
    go_wp2_with (first | ((with_reducible show wpList _ _ _ (⟨_, .box 43 _, _, _, _, _⟩ :: _) _ _); refine wpList_box_blk rfl 43 _ rfl (dArr d) rfl ?_; intro w0 hB0 hL hs0; have hc0 := hB0.cellD; clear hs0) | ((with_reducible show wpList _ _ _ (⟨_, .load 43 _, _, _, _, _⟩ :: _) _ _); refine wpList_load_blk rfl 43 _ rfl (w.heap.size) rfl (show Blk _ (w.heap.size) (dArr d) 43 from by assumption) Tryz.row43 Tryz.size43 ?_))
    go_ret
    exact ⟨rfl, by assumption⟩
  · have hz := zero_true hq
    rw [hz]
    clear hz hd
    generalize Dc.absent d.val = R1 at *
    generalize Dc.absent d.get = R2 at *
    generalize Dc.absent d.set = R3 at *
    go_enter Tryz.func234, Tryz.ntmps234
    go_wp2_with (first | ((with_reducible show wpList _ _ _ (⟨_, .box 43 _, _, _, _, _⟩ :: _) _ _); refine wpList_box_blk rfl 43 _ rfl (dArr d) rfl ?_; intro w0 hB0 hL hs0; have hc0 := hB0.cellD; clear hs0) | ((with_reducible show wpList _ _ _ (⟨_, .load 43 _, _, _, _, _⟩ :: _) _ _); refine wpList_load_blk rfl 43 _ rfl (w.heap.size) rfl (show Blk _ (w.heap.size) (dArr d) 43 from by assumption) Tryz.row43 Tryz.size43 ?_) | (go_at_call_of 165 d.val.kind; refine (cV _).mono ?_; rintro e u ⟨rfl, hb⟩; have hK0 := (show Blk _ w.heap.size (dArr d) 43 from by assumption).next hb; have hc0 := hK0.cellD; have hL := more (show Below w.heap.size w _ from by assumption) hb) | (go_at_call_of 165 d.get.kind; refine (cG _).mono ?_; rintro e u ⟨rfl, hb⟩; have hK0 := (show Blk _ w.heap.size (dArr d) 43 from by assumption).next hb; have hc0 := hK0.cellD; have hL := more (show Below w.heap.size w _ from by assumption) hb) | (go_at_call_of 165 d.set.kind; refine (cS _).mono ?_; rintro e u ⟨rfl, hb⟩; have hK0 := (show Blk _ w.heap.size (dArr d) 43 from by assumption).next hb; have hc0 := hK0.cellD; have hL := more (show Below w.heap.size w _ from by assumption) hb))
    all_goals go_ret
    all_goals refine ⟨ret_b (by simp_all), by assumption⟩

end Go.Proofs.YtoalboilghgalaaGreatDoor

/- Stores into a part of a block; desc.fill, desc.fillTri. -/
namespace Go.Proofs.YtoalboilghgalaaGreatDoor
open Go.RowKit
open Go.Proofs.Dc (V Ds Ky)
attribute [local go_sem] run_store_float

/-- some cells laid over others -/
def laid (C : Array Value) : Nat → List Value → Array Value
  | _, [] => C
  | o, v :: r => laid (C.setIfInBounds o v) (o + 1) r

theorem laid_size : ∀ (vs : List Value) (o : Nat) (C : Array Value), (laid C o vs).size = C.size
  | [], _, _ => rfl
  | v :: r, o, C => by rw [laid, laid_size r]; simp

theorem only_setCell {W : World} {b o : Nat} {C : Array Value} {t : TypeId} {v : Value} (h : Blk W b C t) : Blk (W.setCell ⟨b, o, none⟩ v) b (C.setIfInBounds o v) t ∧ Only [b] W (W.setCell ⟨b, o, none⟩ v) := by
  rw [setCell_eq_setRow W b o C t (0, 0) v h]
  exact only_setRow h

theorem only_setCells : ∀ {vs : List Value} {o : Nat} {W : World} {b : Nat} {C : Array Value} {t : TypeId}, Blk W b C t → Blk (W.setCells b o vs) b (laid C o vs) t ∧ Only [b] W (W.setCells b o vs)
  | [], _, _, _, _, _, h => ⟨h, Only.refl _ _⟩
  | v :: r, o, W, b, C, t, h => by
    rw [World.setCells, laid]
    obtain ⟨h1, h2⟩ := only_setCell (o := o) (v := v) h
    obtain ⟨h3, h4⟩ := only_setCells (vs := r) (o := o + 1) h1
    exact ⟨h3, h2.trans h4⟩

section
variable {P : Program}
/-- a struct is stored into a part of a block -/
theorem wpList_store_part {ops : Array Oper} {rest : List Oper} {o : Oper} {a : Act} {W : World} {Q : Exit → Act → World → Prop} (hgd : o.guard = none) (ty : TypeId) (x y : Operand) (ho : o.op = .store ty x y)
    (b i : Nat) (C old : Array Value) (t : TypeId) (hx : a.eval x = .pointer (some ⟨b, i, none⟩)) (hy : a.eval y = .agg C) (hb : Blk W b old t) (hi : (P.info? ty).map (·.size) = some C.size) (hold : i + C.size ≤ old.size)
    (h1 : C.all (·.oneCell') = true) (h : ∀ W', Blk W' b (laid old i C.toList) t → Only [b] W W' → wpList P ops Q rest (a.put o.dst undef) W') : wpList P ops Q (o :: rest) a W :=
  wpList_store_mid hgd ty x y ho b i C hx hy (fun j hj => ⟨by rw [hb.cell, Array.getElem?_eq_getElem (by omega)]; rfl, hb.frozen _⟩) hi h1 (h _ (only_setCells hb).1 (only_setCells hb).2)

end

abbrev setVal (d : Ds) (v : V) : Ds := { d with val := v }
theorem laid_val (d : Ds) (v : V) : laid (dArr d) 0 (vCells v).toArray.toList = dArr { d with val := v } := rfl
theorem laid_get (d : Ds) (v : V) : laid (dArr d) 5 (vCells v).toArray.toList = dArr { d with get := v } := rfl
theorem laid_set (d : Ds) (v : V) : laid (dArr d) 10 (vCells v).toArray.toList = dArr { d with set := v } := rfl
theorem set_w (d : Ds) (x : Int) : (dArr d).setIfInBounds 15 (.int .i64 x) = dArr { d with w := x } := rfl
theorem set_e (d : Ds) (x : Int) : (dArr d).setIfInBounds 16 (.int .i64 x) = dArr { d with e := x } := rfl
theorem set_c (d : Ds) (x : Int) : (dArr d).setIfInBounds 17 (.int .i64 x) = dArr { d with c := x } := rfl
theorem Blk.frozenD {W : World} {b : Nat} {C : Array Value} {t : TypeId} (h : Blk W b C t) : ∀ j, W.frozen? ⟨b, j, none⟩ = false := h.frozen

theorem fill_val (d : Ds) (b : Nat) (w : World) (hB : Blk w b (dArr d) 43) : Calls Tryz.prog 248 #[.pointer (some ⟨b, 0, none⟩)] w fun e w' => e = .returned (.tuple #[]) ∧ Blk w' b (dArr { d with val := Dc.fill d.val }) 43 ∧ Only [b] w w' := by
  have c1 := fun W => there_any d.val W
  have c2 := fun W => undef_any W
  have hc := hB.cellD
  cases ht : Dc.there d.val
  · have hf : Dc.fill d.val = Dc.vU := by simp [Dc.fill, ht]
    simp only [ht] at c1
    rw [hf]
    clear ht hf
    go_enter Tryz.func248, Tryz.ntmps248
    go_wp2_with (first | (go_at_call 168; refine (c1 _).mono ?_; rintro e w1 ⟨rfl, hb1⟩; have hB1 := hB.next hb1) | (go_at_call 224; refine (c2 _).mono ?_; rintro e w2 ⟨rfl, hb2⟩; have hB2 := hB1.next hb2) | ((with_reducible show wpList _ _ _ (⟨_, .store 36 _ _, _, _, _, _⟩ :: _) _ _); refine wpList_store_part rfl 36 _ _ rfl b 0 (vCells Dc.vU).toArray (dArr d) 43 rfl rfl hB2 Tryz.size36 (show 0 + 5 ≤ 18 by omega) (vCells_one _) ?_; intro w3 hB3 hO3))
    go_end0
    rw [laid_val] at hB3
    exact ⟨rfl, hB3, (Only.of_below (more hb1 hb2)).trans (hO3.mono fun x hx => .inl hx)⟩
  · have hf : Dc.fill d.val = d.val := by simp [Dc.fill, ht]
    simp only [ht] at c1
    rw [hf]
    clear ht hf
    go_enter Tryz.func248, Tryz.ntmps248
    go_wp2_with (first | (go_at_call 168; refine (c1 _).mono ?_; rintro e w1 ⟨rfl, hb1⟩; have hB1 := hB.next hb1))
    go_end0
    exact ⟨rfl, hB1, Only.of_below hb1⟩

theorem fill_get (d : Ds) (b : Nat) (w : World) (hB : Blk w b (dArr d) 43) : Calls Tryz.prog 248 #[.pointer (some ⟨b, 5, none⟩)] w fun e w' => e = .returned (.tuple #[]) ∧ Blk w' b (dArr { d with get := Dc.fill d.get }) 43 ∧ Only [b] w w' := by
  have c1 := fun W => there_any d.get W
  have c2 := fun W => undef_any W
  have hc := hB.cellD
  cases ht : Dc.there d.get
  · have hf : Dc.fill d.get = Dc.vU := by simp [Dc.fill, ht]
    simp only [ht] at c1
    rw [hf]
    clear ht hf
    go_enter Tryz.func248, Tryz.ntmps248
    go_wp2_with (first | (go_at_call 168; refine (c1 _).mono ?_; rintro e w1 ⟨rfl, hb1⟩; have hB1 := hB.next hb1) | (go_at_call 224; refine (c2 _).mono ?_; rintro e w2 ⟨rfl, hb2⟩; have hB2 := hB1.next hb2) | ((with_reducible show wpList _ _ _ (⟨_, .store 36 _ _, _, _, _, _⟩ :: _) _ _); refine wpList_store_part rfl 36 _ _ rfl b 5 (vCells Dc.vU).toArray (dArr d) 43 rfl rfl hB2 Tryz.size36 (show 5 + 5 ≤ 18 by omega) (vCells_one _) ?_; intro w3 hB3 hO3))
    go_end0
    rw [laid_get] at hB3
    exact ⟨rfl, hB3, (Only.of_below (more hb1 hb2)).trans (hO3.mono fun x hx => .inl hx)⟩
  · have hf : Dc.fill d.get = d.get := by simp [Dc.fill, ht]
    simp only [ht] at c1
    rw [hf]
    clear ht hf
    go_enter Tryz.func248, Tryz.ntmps248
    go_wp2_with (first | (go_at_call 168; refine (c1 _).mono ?_; rintro e w1 ⟨rfl, hb1⟩; have hB1 := hB.next hb1))
    go_end0
    exact ⟨rfl, hB1, Only.of_below hb1⟩

theorem fill_set (d : Ds) (b : Nat) (w : World) (hB : Blk w b (dArr d) 43) : Calls Tryz.prog 248 #[.pointer (some ⟨b, 10, none⟩)] w fun e w' => e = .returned (.tuple #[]) ∧ Blk w' b (dArr { d with set := Dc.fill d.set }) 43 ∧ Only [b] w w' := by
  have c1 := fun W => there_any d.set W
  have c2 := fun W => undef_any W
  have hc := hB.cellD
  cases ht : Dc.there d.set
  · have hf : Dc.fill d.set = Dc.vU := by simp [Dc.fill, ht]
    simp only [ht] at c1
    rw [hf]
    clear ht hf
    go_enter Tryz.func248, Tryz.ntmps248
    go_wp2_with (first | (go_at_call 168; refine (c1 _).mono ?_; rintro e w1 ⟨rfl, hb1⟩; have hB1 := hB.next hb1) | (go_at_call 224; refine (c2 _).mono ?_; rintro e w2 ⟨rfl, hb2⟩; have hB2 := hB1.next hb2) | ((with_reducible show wpList _ _ _ (⟨_, .store 36 _ _, _, _, _, _⟩ :: _) _ _); refine wpList_store_part rfl 36 _ _ rfl b 10 (vCells Dc.vU).toArray (dArr d) 43 rfl rfl hB2 Tryz.size36 (show 10 + 5 ≤ 18 by omega) (vCells_one _) ?_; intro w3 hB3 hO3))
    go_end0
    rw [laid_set] at hB3
    exact ⟨rfl, hB3, (Only.of_below (more hb1 hb2)).trans (hO3.mono fun x hx => .inl hx)⟩
  · have hf : Dc.fill d.set = d.set := by simp [Dc.fill, ht]
    simp only [ht] at c1
    rw [hf]
    clear ht hf
    go_enter Tryz.func248, Tryz.ntmps248
    go_wp2_with (first | (go_at_call 168; refine (c1 _).mono ?_; rintro e w1 ⟨rfl, hb1⟩; have hB1 := hB.next hb1))
    go_end0
    exact ⟨rfl, hB1, Only.of_below hb1⟩

theorem fillT_w (d : Ds) (q : Int) (b : Nat) (w : World) (hB : Blk w b (dArr d) 43) : Calls Tryz.prog 237 #[.pointer (some ⟨b, 15, none⟩), .int .i64 q] w fun e w' => e = .returned (.tuple #[]) ∧ Blk w' b (dArr { d with w := Dc.fillT d.w q }) 43 ∧ Only [b] w w' := by
  have hc := hB.cellD
  have hf := hB.frozenD
  have HB := Lib.hid hB
  clear hB
  by_cases h0 : d.w = 0
  · have h1 : (d.w == 0) = true := by simpa using h0
    have hq : Dc.fillT d.w q = q := by simp [Dc.fillT, h0]
    rw [hq]
    clear h0 hq
    go_enter Tryz.func237, Tryz.ntmps237
    go_wp2
    first | go_end0 | refine bodyPost_ret (results_none rfl _ _ _) rfl ?_
    have h2 := only_setCell (o := 15) (v := .int .i64 q) HB.out
    rw [set_w] at h2
    exact ⟨rfl, h2⟩
  · have h1 : (d.w == 0) = false := by simpa using h0
    have hq : Dc.fillT d.w q = d.w := by simp [Dc.fillT, h0]
    rw [hq]
    clear h0 hq
    go_enter Tryz.func237, Tryz.ntmps237
    go_wp2
    first | go_end0 | refine bodyPost_ret (results_none rfl _ _ _) rfl ?_
    exact ⟨rfl, HB.out, Only.refl _ _⟩

theorem fillT_e (d : Ds) (q : Int) (b : Nat) (w : World) (hB : Blk w b (dArr d) 43) : Calls Tryz.prog 237 #[.pointer (some ⟨b, 16, none⟩), .int .i64 q] w fun e w' => e = .returned (.tuple #[]) ∧ Blk w' b (dArr { d with e := Dc.fillT d.e q }) 43 ∧ Only [b] w w' := by
  have hc := hB.cellD
  have hf := hB.frozenD
  have HB := Lib.hid hB
  clear hB
  by_cases h0 : d.e = 0
  · have h1 : (d.e == 0) = true := by simpa using h0
    have hq : Dc.fillT d.e q = q := by simp [Dc.fillT, h0]
    rw [hq]
    clear h0 hq
    go_enter Tryz.func237, Tryz.ntmps237
    go_wp2
    first | go_end0 | refine bodyPost_ret (results_none rfl _ _ _) rfl ?_
    have h2 := only_setCell (o := 16) (v := .int .i64 q) HB.out
    rw [set_e] at h2
    exact ⟨rfl, h2⟩
  · have h1 : (d.e == 0) = false := by simpa using h0
    have hq : Dc.fillT d.e q = d.e := by simp [Dc.fillT, h0]
    rw [hq]
    clear h0 hq
    go_enter Tryz.func237, Tryz.ntmps237
    go_wp2
    first | go_end0 | refine bodyPost_ret (results_none rfl _ _ _) rfl ?_
    exact ⟨rfl, HB.out, Only.refl _ _⟩

theorem fillT_c (d : Ds) (q : Int) (b : Nat) (w : World) (hB : Blk w b (dArr d) 43) : Calls Tryz.prog 237 #[.pointer (some ⟨b, 17, none⟩), .int .i64 q] w fun e w' => e = .returned (.tuple #[]) ∧ Blk w' b (dArr { d with c := Dc.fillT d.c q }) 43 ∧ Only [b] w w' := by
  have hc := hB.cellD
  have hf := hB.frozenD
  have HB := Lib.hid hB
  clear hB
  by_cases h0 : d.c = 0
  · have h1 : (d.c == 0) = true := by simpa using h0
    have hq : Dc.fillT d.c q = q := by simp [Dc.fillT, h0]
    rw [hq]
    clear h0 hq
    go_enter Tryz.func237, Tryz.ntmps237
    go_wp2
    first | go_end0 | refine bodyPost_ret (results_none rfl _ _ _) rfl ?_
    have h2 := only_setCell (o := 17) (v := .int .i64 q) HB.out
    rw [set_c] at h2
    exact ⟨rfl, h2⟩
  · have h1 : (d.c == 0) = false := by simpa using h0
    have hq : Dc.fillT d.c q = d.c := by simp [Dc.fillT, h0]
    rw [hq]
    clear h0 hq
    go_enter Tryz.func237, Tryz.ntmps237
    go_wp2
    first | go_end0 | refine bodyPost_ret (results_none rfl _ _ _) rfl ?_
    exact ⟨rfl, HB.out, Only.refl _ _⟩


end Go.Proofs.YtoalboilghgalaaGreatDoor

/- desc.Complete. -/
namespace Go.Proofs.YtoalboilghgalaaGreatDoor
open Go.RowKit
open Go.Proofs.Dc (V Ds Ky)
attribute [local go_sem] run_store_float

theorem below_only {w W W' : World} {S : List Nat} (h : Below w.heap.size w W) (ho : Only S W W') (hS : ∀ b, b ∈ S → w.heap.size ≤ b) : Below w.heap.size w W' := h.trans (ho.below _ h.size hS)
theorem zero43 (w : World) : (zeroValue 43).run Tryz.prog w = .ok (.agg (dArr Dc.d0)) w := by
  have := Tryz.zeroValue43 (w := w)
  exact this

section
variable {P : Program}
theorem run_loadVar_blk {W : World} {b : Nat} {C : Array Value} {t ty : TypeId} (hb : Blk W b C t) (hd : ∃ d, P.underlying ty = some d ∧ d.isRow = true) (hi : (P.info? ty).map (·.size) = some C.size) :
    (loadVar ty ⟨b, 0, none⟩).run P W = .ok (.agg C) W := by
  obtain ⟨d, hu, hd⟩ := hd
  have := run_loadVar_mid (P := P) W b 0 ty C.toList d (fun j v hv => by rw [Nat.zero_add, hb.cell]; simpa using hv) hu hd (by rw [hi, Array.length_toList])
  simpa using this
theorem results_cell {fn : Func} {i : Tmp} {ty : TypeId} (h : fn.results = #[.cell i ty]) {tmps : Array Value} {W : World} {b : Nat} {C : Array Value} {t : TypeId} (hx : tmps.getD i undef = .pointer (some ⟨b, 0, none⟩)) (hb : Blk W b C t)
    (hd : ∃ d, P.underlying ty = some d ∧ d.isRow = true) (hi : (P.info? ty).map (·.size) = some C.size) : (results fn tmps).run P W = .ok (.agg C) W := by
  have hl := run_loadVar_blk hb hd hi
  simp [Array.getD_eq_getD_getElem?] at hx
  simp [results, h, hx, asAddr, hl]
theorem results_cell_tmp {fn : Func} {i j : Tmp} {ty : TypeId} (h : fn.results = #[.cell i ty, .tmp j]) {tmps : Array Value} {W : World} {b : Nat} {C : Array Value} {t : TypeId} (hx : tmps.getD i undef = .pointer (some ⟨b, 0, none⟩)) (hb : Blk W b C t)
    (hd : ∃ d, P.underlying ty = some d ∧ d.isRow = true) (hi : (P.info? ty).map (·.size) = some C.size) : (results fn tmps).run P W = .ok (.tuple #[.agg C, tmps.getD j undef]) W := by
  have hl := run_loadVar_blk hb hd hi
  simp [Array.getD_eq_getD_getElem?] at hx
  simp [results, h, hx, asAddr, hl]
theorem results_cell_tmp2 {fn : Func} {i j k : Tmp} {ty : TypeId} (h : fn.results = #[.cell i ty, .tmp j, .tmp k]) {tmps : Array Value} {W : World} {b : Nat} {C : Array Value} {t : TypeId} (hx : tmps.getD i undef = .pointer (some ⟨b, 0, none⟩)) (hb : Blk W b C t)
    (hd : ∃ d, P.underlying ty = some d ∧ d.isRow = true) (hi : (P.info? ty).map (·.size) = some C.size) : (results fn tmps).run P W = .ok (.tuple #[.agg C, tmps.getD j undef, tmps.getD k undef]) W := by
  have hl := run_loadVar_blk hb hd hi
  simp [Array.getD_eq_getD_getElem?] at hx
  simp [results, h, hx, asAddr, hl]
end

/-- what desc.Complete hands back -/
def compl (d : Ds) : Ds := if Dc.kindB uvalid d then Dc.complete uvalid d else Dc.d0

theorem complete_any (d : Ds) (w : World) (hT : Tabs w) (hd : Nums d) : Calls Tryz.prog 235 #[.agg (dArr d)] w fun e w' => e = .returned (.tuple #[.agg (dArr (compl d)), .int .i64 (if Dc.kindB uvalid d then 0 else 5)]) ∧ Below w.heap.size w w' := by
  have cK := fun W (h : Below w.heap.size w W) => kind_any d W (hT.below h) hd
  unfold compl Dc.complete
  clear hT hd
  generalize Dc.kindB uvalid d = KB at *
  generalize Dc.kindN uvalid d = KN at *
  cases KB
  · simp only [Bool.false_eq_true, if_false]
    go_enter Tryz.func235, Tryz.ntmps235
    go_wp2_with (first | ((with_reducible show wpList _ _ _ (⟨_, .box 43 _, _, _, _, _⟩ :: _) _ _); refine wpList_box_blk rfl 43 _ rfl (dArr d) rfl ?_; intro w0 hB0 hL0 hs0) | ((with_reducible show wpList _ _ _ (⟨_, .alloc 43, _, _, _, _⟩ :: _) _ _); refine wpList_alloc_blk rfl 43 rfl (dArr Dc.d0) zero43 ?_; intro w1 hR hL1 hs1; have hB1 := hB0.next hL1; have hL := more hL0 hL1; rw [hs0] at hR; clear hs1 hL1) | ((with_reducible show wpList _ _ _ (⟨_, .load 43 _, _, _, _, _⟩ :: _) _ _); refine wpList_load_blk rfl 43 _ rfl w.heap.size rfl (show Blk _ w.heap.size (dArr _) 43 from by assumption) Tryz.row43 Tryz.size43 ?_) | (go_at_call 139; refine (cK _ (by assumption)).mono ?_; rintro e u ⟨rfl, hb⟩; have hB := (show Blk _ w.heap.size (dArr d) 43 from by assumption).next hb; have hR' := (show Blk _ (w.heap.size + 1) (dArr Dc.d0) 43 from by assumption).next hb; have hL' := more (show Below w.heap.size w _ from by assumption) hb) | ((with_reducible show wpList _ _ _ (⟨_, .store 43 _ _, _, _, _, _⟩ :: _) _ _); refine wpList_store_blk rfl 43 _ _ rfl (w.heap.size + 1) (dArr _) (dArr Dc.d0) 43 rfl rfl (by assumption) Tryz.size43 rfl (dCells_one _) ?_; intro w9 hR9 hO9; have hc9 := hR9.cellD; have hL9 := below_only (show Below w.heap.size w _ from by assumption) hO9 (by simp)))
    exact bodyPost_ret (results_cell_tmp Tryz.results235 rfl hR9 Tryz.row43 Tryz.size43) rfl ⟨rfl, hL9⟩
  · simp only [if_true]
    by_cases h2 : KN = 2
    · have h2' : ((KN : Int) == 2) = true := by simp; omega
      rw [if_pos h2]
      clear h2
      go_enter Tryz.func235, Tryz.ntmps235
      go_wp2_with (first | ((with_reducible show wpList _ _ _ (⟨_, .box 43 _, _, _, _, _⟩ :: _) _ _); refine wpList_box_blk rfl 43 _ rfl (dArr d) rfl ?_; intro w0 hB0 hL0 hs0) | ((with_reducible show wpList _ _ _ (⟨_, .alloc 43, _, _, _, _⟩ :: _) _ _); refine wpList_alloc_blk rfl 43 rfl (dArr Dc.d0) zero43 ?_; intro w1 hR hL1 hs1; have hB1 := hB0.next hL1; have hL := more hL0 hL1; rw [hs0] at hR; clear hs1 hL1) | ((with_reducible show wpList _ _ _ (⟨_, .load 43 _, _, _, _, _⟩ :: _) _ _); refine wpList_load_blk rfl 43 _ rfl w.heap.size rfl (show Blk _ w.heap.size (dArr _) 43 from by assumption) Tryz.row43 Tryz.size43 ?_) | (go_at_call 139; refine (cK _ (by assumption)).mono ?_; rintro e u ⟨rfl, hb⟩; have hB := (show Blk _ w.heap.size (dArr d) 43 from by assumption).next hb; have hR' := (show Blk _ (w.heap.size + 1) (dArr Dc.d0) 43 from by assumption).next hb; have hL' := more (show Below w.heap.size w _ from by assumption) hb) | ((with_reducible show wpList _ _ _ (⟨_, .store 43 _ _, _, _, _, _⟩ :: _) _ _); refine wpList_store_blk rfl 43 _ _ rfl (w.heap.size + 1) (dArr _) (dArr Dc.d0) 43 rfl rfl (by assumption) Tryz.size43 rfl (dCells_one _) ?_; intro w9 hR9 hO9; have hc9 := hR9.cellD; have hL9 := below_only (show Below w.heap.size w _ from by assumption) hO9 (by simp)) | (go_at_call_of 248 (⟨w.heap.size, 0, none⟩ : Addr); refine (fill_val _ _ _ (by assumption)).mono ?_; rintro e u ⟨rfl, hB, hO⟩; have hR' := (show Blk _ (w.heap.size + 1) (dArr Dc.d0) 43 from by assumption).only hO (by simp); have hL' := below_only (show Below w.heap.size w _ from by assumption) hO (by simp)) | (go_at_call_of 248 (⟨w.heap.size, 5, none⟩ : Addr); refine (fill_get _ _ _ (by assumption)).mono ?_; rintro e u ⟨rfl, hB, hO⟩; have hR' := (show Blk _ (w.heap.size + 1) (dArr Dc.d0) 43 from by assumption).only hO (by simp); have hL' := below_only (show Below w.heap.size w _ from by assumption) hO (by simp)) | (go_at_call_of 248 (⟨w.heap.size, 10, none⟩ : Addr); refine (fill_set _ _ _ (by assumption)).mono ?_; rintro e u ⟨rfl, hB, hO⟩; have hR' := (show Blk _ (w.heap.size + 1) (dArr Dc.d0) 43 from by assumption).only hO (by simp); have hL' := below_only (show Below w.heap.size w _ from by assumption) hO (by simp)) | (go_at_call_of 237 (⟨w.heap.size, 15, none⟩ : Addr); refine (fillT_w _ _ _ _ (by assumption)).mono ?_; rintro e u ⟨rfl, hB, hO⟩; have hR' := (show Blk _ (w.heap.size + 1) (dArr Dc.d0) 43 from by assumption).only hO (by simp); have hL' := below_only (show Below w.heap.size w _ from by assumption) hO (by simp)) | (go_at_call_of 237 (⟨w.heap.size, 16, none⟩ : Addr); refine (fillT_e _ _ _ _ (by assumption)).mono ?_; rintro e u ⟨rfl, hB, hO⟩; have hR' := (show Blk _ (w.heap.size + 1) (dArr Dc.d0) 43 from by assumption).only hO (by simp); have hL' := below_only (show Below w.heap.size w _ from by assumption) hO (by simp)) | (go_at_call_of 237 (⟨w.heap.size, 17, none⟩ : Addr); refine (fillT_c _ _ _ _ (by assumption)).mono ?_; rintro e u ⟨rfl, hB, hO⟩; have hR' := (show Blk _ (w.heap.size + 1) (dArr Dc.d0) 43 from by assumption).only hO (by simp); have hL' := below_only (show Below w.heap.size w _ from by assumption) hO (by simp)))
      exact bodyPost_ret (results_cell_tmp Tryz.results235 rfl hR9 Tryz.row43 Tryz.size43) rfl ⟨rfl, hL9⟩
    · have h2' : ((KN : Int) == 2) = false := by simp; omega
      rw [if_neg h2]
      clear h2
      go_enter Tryz.func235, Tryz.ntmps235
      go_wp2_with (first | ((with_reducible show wpList _ _ _ (⟨_, .box 43 _, _, _, _, _⟩ :: _) _ _); refine wpList_box_blk rfl 43 _ rfl (dArr d) rfl ?_; intro w0 hB0 hL0 hs0) | ((with_reducible show wpList _ _ _ (⟨_, .alloc 43, _, _, _, _⟩ :: _) _ _); refine wpList_alloc_blk rfl 43 rfl (dArr Dc.d0) zero43 ?_; intro w1 hR hL1 hs1; have hB1 := hB0.next hL1; have hL := more hL0 hL1; rw [hs0] at hR; clear hs1 hL1) | ((with_reducible show wpList _ _ _ (⟨_, .load 43 _, _, _, _, _⟩ :: _) _ _); refine wpList_load_blk rfl 43 _ rfl w.heap.size rfl (show Blk _ w.heap.size (dArr _) 43 from by assumption) Tryz.row43 Tryz.size43 ?_) | (go_at_call 139; refine (cK _ (by assumption)).mono ?_; rintro e u ⟨rfl, hb⟩; have hB := (show Blk _ w.heap.size (dArr d) 43 from by assumption).next hb; have hR' := (show Blk _ (w.heap.size + 1) (dArr Dc.d0) 43 from by assumption).next hb; have hL' := more (show Below w.heap.size w _ from by assumption) hb) | ((with_reducible show wpList _ _ _ (⟨_, .store 43 _ _, _, _, _, _⟩ :: _) _ _); refine wpList_store_blk rfl 43 _ _ rfl (w.heap.size + 1) (dArr _) (dArr Dc.d0) 43 rfl rfl (by assumption) Tryz.size43 rfl (dCells_one _) ?_; intro w9 hR9 hO9; have hc9 := hR9.cellD; have hL9 := below_only (show Below w.heap.size w _ from by assumption) hO9 (by simp)) | (go_at_call_of 248 (⟨w.heap.size, 0, none⟩ : Addr); refine (fill_val _ _ _ (by assumption)).mono ?_; rintro e u ⟨rfl, hB, hO⟩; have hR' := (show Blk _ (w.heap.size + 1) (dArr Dc.d0) 43 from by assumption).only hO (by simp); have hL' := below_only (show Below w.heap.size w _ from by assumption) hO (by simp)) | (go_at_call_of 248 (⟨w.heap.size, 5, none⟩ : Addr); refine (fill_get _ _ _ (by assumption)).mono ?_; rintro e u ⟨rfl, hB, hO⟩; have hR' := (show Blk _ (w.heap.size + 1) (dArr Dc.d0) 43 from by assumption).only hO (by simp); have hL' := below_only (show Below w.heap.size w _ from by assumption) hO (by simp)) | (go_at_call_of 248 (⟨w.heap.size, 10, none⟩ : Addr); refine (fill_set _ _ _ (by assumption)).mono ?_; rintro e u ⟨rfl, hB, hO⟩; have hR' := (show Blk _ (w.heap.size + 1) (dArr Dc.d0) 43 from by assumption).only hO (by simp); have hL' := below_only (show Below w.heap.size w _ from by assumption) hO (by simp)) | (go_at_call_of 237 (⟨w.heap.size, 15, none⟩ : Addr); refine (fillT_w _ _ _ _ (by assumption)).mono ?_; rintro e u ⟨rfl, hB, hO⟩; have hR' := (show Blk _ (w.heap.size + 1) (dArr Dc.d0) 43 from by assumption).only hO (by simp); have hL' := below_only (show Below w.heap.size w _ from by assumption) hO (by simp)) | (go_at_call_of 237 (⟨w.heap.size, 16, none⟩ : Addr); refine (fillT_e _ _ _ _ (by assumption)).mono ?_; rintro e u ⟨rfl, hB, hO⟩; have hR' := (show Blk _ (w.heap.size + 1) (dArr Dc.d0) 43 from by assumption).only hO (by simp); have hL' := below_only (show Below w.heap.size w _ from by assumption) hO (by simp)) | (go_at_call_of 237 (⟨w.heap.size, 17, none⟩ : Addr); refine (fillT_c _ _ _ _ (by assumption)).mono ?_; rintro e u ⟨rfl, hB, hO⟩; have hR' := (show Blk _ (w.heap.size + 1) (dArr Dc.d0) 43 from by assumption).only hO (by simp); have hL' := below_only (show Below w.heap.size w _ from by assumption) hO (by simp)))
      exact bodyPost_ret (results_cell_tmp Tryz.results235 rfl hR9 Tryz.row43 Tryz.size43) rfl ⟨rfl, hL9⟩

end Go.Proofs.YtoalboilghgalaaGreatDoor

/- desc.Whole, desc.barred. -/
namespace Go.Proofs.YtoalboilghgalaaGreatDoor
open Go.RowKit
open Go.Proofs.Dc (V Ds Ky)
attribute [local go_sem] run_store_float

theorem fill_num (v : V) (h : v.num < 2 ^ 64) : (Dc.fill v).num < 2 ^ 64 := by
  unfold Dc.fill; split
  · exact h
  · decide
theorem Nums.compl {d : Ds} (h : Nums d) : Nums (compl d) := by
  unfold YtoalboilghgalaaGreatDoor.compl Dc.complete
  split
  · split
    · exact ⟨h.val, fill_num _ h.get, fill_num _ h.set⟩
    · exact ⟨fill_num _ h.val, h.get, h.set⟩
  · exact ⟨by decide, by decide, by decide⟩

theorem whole_any (d : Ds) (w : World) (hT : Tabs w) (hd : Nums d) : Calls Tryz.prog 233 #[.agg (dArr d)] w fun e w' => e = .returned (.bool (Dc.whole uvalid d)) ∧ Below w.heap.size w w' := by
  have cK := fun W (h : Below w.heap.size w W) => kind_any d W (hT.below h) hd
  have cC := fun W (h : Below w.heap.size w W) => complete_any d W (hT.below h) hd
  have cE := fun W (h : Below w.heap.size w W) => equal_any (compl d) d W (hT.below h) hd.compl hd
  have hr : Dc.whole uvalid d = (Dc.kindB uvalid d && (Dc.kindN uvalid d != 0) && Dc.equal uvalid (compl d) d) := by
    unfold Dc.whole compl
    cases Dc.kindB uvalid d <;> simp
  generalize Dc.whole uvalid d = R at *
  generalize Dc.equal uvalid (compl d) d = E at *
  generalize Dc.kindB uvalid d = KB at *
  generalize Dc.kindN uvalid d = KN at *
  have hn : (KN != 0) = !((KN : Int) == 0) := by rw [Bool.eq_iff_iff]; simp
  rw [hn] at hr
  generalize hz : ((KN : Int) == 0) = Z at *
  have HR := Lib.hid hr
  clear hr hn hT hd
  cases KB <;> cases Z
  all_goals
    go_enter Tryz.func233, Tryz.ntmps233
    go_wp2_with (first | ((with_reducible show wpList _ _ _ (⟨_, .box 43 _, _, _, _, _⟩ :: _) _ _); refine wpList_box_blk rfl 43 _ rfl (dArr d) rfl ?_; intro w0 hB0 hL0 hs0) | ((with_reducible show wpList _ _ _ (⟨some 8, .load 43 _, _, _, _, _⟩ :: _) _ _); refine wpList_load_blk rfl 43 _ rfl (w.heap.size) rfl (show Blk _ (w.heap.size) (dArr d) 43 from by assumption) Tryz.row43 Tryz.size43 ?_) | ((with_reducible show wpList _ _ _ (⟨some 19, .load 43 _, _, _, _, _⟩ :: _) _ _); refine wpList_load_blk rfl 43 _ rfl (w.heap.size) rfl (show Blk _ (w.heap.size) (dArr d) 43 from by assumption) Tryz.row43 Tryz.size43 ?_) | ((with_reducible show wpList _ _ _ (⟨some 23, .load 43 _, _, _, _, _⟩ :: _) _ _); refine wpList_load_blk rfl 43 _ rfl _ rfl hR9 Tryz.row43 Tryz.size43 ?_) | ((with_reducible show wpList _ _ _ (⟨some 24, .load 43 _, _, _, _, _⟩ :: _) _ _); refine wpList_load_blk rfl 43 _ rfl (w.heap.size) rfl (show Blk _ (w.heap.size) (dArr d) 43 from by assumption) Tryz.row43 Tryz.size43 ?_) | (go_at_call 139; refine (cK _ (by assumption)).mono ?_; rintro e u ⟨rfl, hb⟩; have hB := (show Blk _ w.heap.size (dArr d) 43 from by assumption).next hb; have hL' := more (show Below w.heap.size w _ from by assumption) hb) | (go_at_call 235; refine (cC _ (by assumption)).mono ?_; rintro e u2 ⟨rfl, hb⟩; have hB2 := (show Blk _ w.heap.size (dArr d) 43 from by assumption).next hb; have hL2 := more (show Below w.heap.size w _ from by assumption) hb) | ((with_reducible show wpList _ _ _ (⟨_, .alloc 43, _, _, _, _⟩ :: _) _ _); refine wpList_alloc_blk rfl 43 rfl (dArr Dc.d0) zero43 ?_; intro w5 hR5 hL5 hs5; have hB5 := hB2.next hL5; have hL6 := more hL2 hL5) | ((with_reducible show wpList _ _ _ (⟨_, .store 43 _ _, _, _, _, _⟩ :: _) _ _); refine wpList_store_blk rfl 43 _ _ rfl _ (dArr (compl d)) (dArr Dc.d0) 43 rfl rfl hR5 Tryz.size43 rfl (dCells_one _) ?_; intro w9 hR9 hO9; have hL9 := below_only hL6 hO9 (by have := hL2.size; simpa using this); have hB9 := hB5.only hO9 (by have := hB2.lt; simp; omega)) | (go_at_call 247; refine (cE _ (by assumption)).mono ?_; rintro e u3 ⟨rfl, hb⟩; have hL3 := more (show Below w.heap.size w _ from by assumption) hb))
  all_goals go_ret
  all_goals refine ⟨ret_b (by rw [HR.out]; simp), by assumption⟩

end Go.Proofs.YtoalboilghgalaaGreatDoor

/- desc.barred. -/
namespace Go.Proofs.YtoalboilghgalaaGreatDoor
open Go.RowKit
open Go.Proofs.Dc (V Ds Ky)
attribute [local go_sem] run_store_float

theorem barred_any (n d : Ds) (w : World) (hT : Tabs w) (hn : Nums n) (hd : Nums d) : Calls Tryz.prog 236 #[.agg (dArr n), .agg (dArr d)] w fun e w' => e = .returned (.bool (Dc.barred uvalid n d)) ∧ Below w.heap.size w w' := by
  have cV := fun W (h : Below w.heap.size w W) => alike_any d.val n.val W (hT.below h) hd.val hn.val
  have cG := fun W (h : Below w.heap.size w W) => alike_any d.get n.get W (hT.below h) hd.get hn.get
  have cS := fun W (h : Below w.heap.size w W) => alike_any d.set n.set W (hT.below h) hd.set hn.set
  have tV := fun W => there_any d.val W
  have tG := fun W => there_any d.get W
  have tS := fun W => there_any d.set W
  have kD := fun W (h : Below w.heap.size w W) => kind_any d W (hT.below h) hd
  have kN := fun W (h : Below w.heap.size w W) => kind_any n W (hT.below h) hn
  have e0 : (((Dc.kindN uvalid d : Nat) : Int) = 0) = (Dc.kindN uvalid d = 0) := by simp
  have e1 : (((Dc.kindN uvalid d : Nat) : Int) = (Dc.kindN uvalid n : Nat)) = (Dc.kindN uvalid d = Dc.kindN uvalid n) := by simp; omega
  have e2 : (((Dc.kindN uvalid d : Nat) : Int) = 2) = (Dc.kindN uvalid d = 2) := by simp; omega
  have hr : Dc.barred uvalid n d = if d.c == 2 || (d.e != 0 && d.e != n.e) then true else if ((Dc.kindN uvalid d : Nat) : Int) = 0 then false else if ¬ ((Dc.kindN uvalid d : Nat) : Int) = (Dc.kindN uvalid n : Nat) then true
    else if ((Dc.kindN uvalid d : Nat) : Int) = 2 then (Dc.there d.get && !Dc.alike uvalid d.get n.get) || (Dc.there d.set && !Dc.alike uvalid d.set n.set) else n.w == 1 && (d.w == 2 || (Dc.there d.val && !Dc.alike uvalid d.val n.val)) := by
    simp only [e0, e1, e2]; rfl
  clear e0 e1 e2
  generalize Dc.barred uvalid n d = R at *
  generalize Dc.alike uvalid d.val n.val = R1 at *
  generalize Dc.alike uvalid d.get n.get = R2 at *
  generalize Dc.alike uvalid d.set n.set = R3 at *
  generalize Dc.there d.val = T1 at *
  generalize Dc.there d.get = T2 at *
  generalize Dc.there d.set = T3 at *
  generalize ((Dc.kindN uvalid d : Nat) : Int) = KD at *
  generalize ((Dc.kindN uvalid n : Nat) : Int) = KN at *
  generalize Dc.kindB uvalid d = BD at *
  generalize Dc.kindB uvalid n = BN at *
  have HR := Lib.hid hr
  clear hr hT hn hd
  go_enter Tryz.func236, Tryz.ntmps236
  go_wp2_with (first | ((with_reducible show wpList _ _ _ (⟨some 2, .box 43 _, _, _, _, _⟩ :: _) _ _); refine wpList_box_blk rfl 43 _ rfl (dArr n) rfl ?_; intro w0 hA hLA hsA) | ((with_reducible show wpList _ _ _ (⟨some 3, .box 43 _, _, _, _, _⟩ :: _) _ _); refine wpList_box_blk rfl 43 _ rfl (dArr d) rfl ?_; intro w1 hB hLB hsB; have hA1 := hA.next hLB; have hL := more hLA hLB; rw [hsA] at hB; have hc0 := hA1.cellD; have hc1 := hB.cellD; clear hsB) | ((with_reducible show wpList _ _ _ (⟨some 25, .load 43 _, _, _, _, _⟩ :: _) _ _); refine wpList_load_blk rfl 43 _ rfl (w.heap.size + 1) rfl (show Blk _ (w.heap.size + 1) (dArr d) 43 from by assumption) Tryz.row43 Tryz.size43 ?_) | ((with_reducible show wpList _ _ _ (⟨some 30, .load 43 _, _, _, _, _⟩ :: _) _ _); refine wpList_load_blk rfl 43 _ rfl (w.heap.size) rfl (show Blk _ (w.heap.size) (dArr n) 43 from by assumption) Tryz.row43 Tryz.size43 ?_) | (go_at_call_of 139 (dArr d); refine (kD _ (by assumption)).mono ?_; rintro e u ⟨rfl, hb⟩; have hK0 := (show Blk _ w.heap.size (dArr n) 43 from by assumption).next hb; have hc0 := hK0.cellD; have hK1 := (show Blk _ (w.heap.size + 1) (dArr d) 43 from by assumption).next hb; have hc1 := hK1.cellD; have hL := more (show Below w.heap.size w _ from by assumption) hb) | (go_at_call_of 139 (dArr n); refine (kN _ (by assumption)).mono ?_; rintro e u ⟨rfl, hb⟩; have hK0 := (show Blk _ w.heap.size (dArr n) 43 from by assumption).next hb; have hc0 := hK0.cellD; have hK1 := (show Blk _ (w.heap.size + 1) (dArr d) 43 from by assumption).next hb; have hc1 := hK1.cellD; have hL := more (show Below w.heap.size w _ from by assumption) hb) | (go_at_call_of 168 d.val.kind; refine (tV _).mono ?_; rintro e u ⟨rfl, hb⟩; have hK0 := (show Blk _ w.heap.size (dArr n) 43 from by assumption).next hb; have hc0 := hK0.cellD; have hK1 := (show Blk _ (w.heap.size + 1) (dArr d) 43 from by assumption).next hb; have hc1 := hK1.cellD; have hL := more (show Below w.heap.size w _ from by assumption) hb) | (go_at_call_of 168 d.get.kind; refine (tG _).mono ?_; rintro e u ⟨rfl, hb⟩; have hK0 := (show Blk _ w.heap.size (dArr n) 43 from by assumption).next hb; have hc0 := hK0.cellD; have hK1 := (show Blk _ (w.heap.size + 1) (dArr d) 43 from by assumption).next hb; have hc1 := hK1.cellD; have hL := more (show Below w.heap.size w _ from by assumption) hb) | (go_at_call_of 168 d.set.kind; refine (tS _).mono ?_; rintro e u ⟨rfl, hb⟩; have hK0 := (show Blk _ w.heap.size (dArr n) 43 from by assumption).next hb; have hc0 := hK0.cellD; have hK1 := (show Blk _ (w.heap.size + 1) (dArr d) 43 from by assumption).next hb; have hc1 := hK1.cellD; have hL := more (show Below w.heap.size w _ from by assumption) hb) | (go_at_call_of 249 d.val.kind; refine (cV _ (by assumption)).mono ?_; rintro e u ⟨rfl, hb⟩; have hK0 := (show Blk _ w.heap.size (dArr n) 43 from by assumption).next hb; have hc0 := hK0.cellD; have hK1 := (show Blk _ (w.heap.size + 1) (dArr d) 43 from by assumption).next hb; have hc1 := hK1.cellD; have hL := more (show Below w.heap.size w _ from by assumption) hb) | (go_at_call_of 249 d.get.kind; refine (cG _ (by assumption)).mono ?_; rintro e u ⟨rfl, hb⟩; have hK0 := (show Blk _ w.heap.size (dArr n) 43 from by assumption).next hb; have hc0 := hK0.cellD; have hK1 := (show Blk _ (w.heap.size + 1) (dArr d) 43 from by assumption).next hb; have hc1 := hK1.cellD; have hL := more (show Below w.heap.size w _ from by assumption) hb) | (go_at_call_of 249 d.set.kind; refine (cS _ (by assumption)).mono ?_; rintro e u ⟨rfl, hb⟩; have hK0 := (show Blk _ w.heap.size (dArr n) 43 from by assumption).next hb; have hc0 := hK0.cellD; have hK1 := (show Blk _ (w.heap.size + 1) (dArr d) 43 from by assumption).next hb; have hc1 := hK1.cellD; have hL := more (show Below w.heap.size w _ from by assumption) hb))
  all_goals go_ret
  all_goals refine ⟨ret_b ?_, by assumption⟩
  all_goals rw [HR.out]
  all_goals simp_all

end Go.Proofs.YtoalboilghgalaaGreatDoor

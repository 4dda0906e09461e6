/- Lemmas for this claim, in parts: Over, Apply. -/
import Derived.Test.YtoalboilghgalaaGreatDoorC10
import Derived.BigRegion
import Derived.OwnWalk
set_option maxRecDepth 100000
set_option maxHeartbeats 4000000
set_option linter.unusedVariables false
set_option linter.unusedSimpArgs false
/- desc.over. -/
namespace Go.Proofs.YtoalboilghgalaaGreatDoor
open Go.RowKit
open Go.Proofs.Dc (V Ds Ky)
attribute [local go_sem] run_store_float

abbrev rowV (s : Nat) : Array Value := #[.pointer (some ⟨s, 0, none⟩), .pointer (some ⟨s + 1, 0, none⟩), .pointer (some ⟨s, 5, none⟩), .pointer (some ⟨s + 1, 5, none⟩), .pointer (some ⟨s, 10, none⟩), .pointer (some ⟨s + 1, 10, none⟩)]
/-- the first so many values laid over -/
def ovV (k : Nat) (n d : Ds) : Ds := ⟨if 0 < k then Dc.overV n.val d.val else n.val, if 1 < k then Dc.overV n.get d.get else n.get, if 2 < k then Dc.overV n.set d.set else n.set, n.w, n.e, n.c⟩
abbrev rowT (s : Nat) : Array Value := #[.pointer (some ⟨s, 15, none⟩), .pointer (some ⟨s + 1, 15, none⟩), .pointer (some ⟨s, 16, none⟩), .pointer (some ⟨s + 1, 16, none⟩), .pointer (some ⟨s, 17, none⟩), .pointer (some ⟨s + 1, 17, none⟩)]
def ovT (k : Nat) (n d : Ds) : Ds := ⟨Dc.overV n.val d.val, Dc.overV n.get d.get, Dc.overV n.set d.set, if 0 < k then Dc.overT n.w d.w else n.w, if 1 < k then Dc.overT n.e d.e else n.e, if 2 < k then Dc.overT n.c d.c else n.c⟩
/-- the blocks of the loop -/
structure OvSt (w W : World) (x d : Ds) : Prop where
  a : Blk W (w.heap.size) (dArr x) 43
  b : Blk W (w.heap.size + 1) (dArr d) 43
  r : Blk W (w.heap.size + 2) (dArr Dc.d0) 43
  below : Below w.heap.size w W

theorem OvSt.next {w W W' : World} {x d : Ds} (h : OvSt w W x d) (hb : Below W.heap.size W W') : OvSt w W' x d := ⟨h.a.next hb, h.b.next hb, h.r.next hb, more h.below hb⟩
theorem OvSt.lt {w W : World} {x d : Ds} (h : OvSt w W x d) : w.heap.size + 2 < W.heap.size := h.r.lt
theorem OvSt.only {w W W' : World} {x d : Ds} {S : List Nat} (h : OvSt w W x d) (ho : Only S W W') (hS : ∀ b, b ∈ S → w.heap.size + 2 < b) : OvSt w W' x d :=
  ⟨h.a.only ho fun hm => by have := hS _ hm; omega, h.b.only ho fun hm => by have := hS _ hm; omega, h.r.only ho fun hm => by have := hS _ hm; omega, below_only h.below ho fun b hb => by have := hS b hb; omega⟩

theorem OvSt.put {w W : World} {x x' d : Ds} (h : OvSt w W x d) (o : Nat) (vs : List Value) (hl : laid (dArr x) o vs = dArr x') : OvSt w (W.setCells (w.heap.size) o vs) x' d ∧ Only [w.heap.size] W (W.setCells (w.heap.size) o vs) := by
  obtain ⟨h1, h2⟩ := only_setCells (o := o) (vs := vs) h.a
  rw [hl] at h1
  exact ⟨⟨h1, h.b.only h2 (by simp), h.r.only h2 (by simp), below_only h.below h2 (by simp)⟩, h2⟩
theorem OvSt.drew {w W : World} {x d : Ds} (h : OvSt w W x d) : OvSt w W.drew x d := ⟨h.a, h.b, h.r, h.below.drew⟩
theorem Only.drew {S : List Nat} {a b : World} (h : Only S a b) : Only S a b.drew := ⟨h.os, h.tape, h.output, h.size, h.block⟩
theorem overV_not {a b : V} (h : Dc.there b = false) : Dc.overV a b = a := by simp [Dc.overV, h]
theorem overV_yes {a b : V} (h : Dc.there b = true) : Dc.overV a b = b := by simp [Dc.overV, h]

theorem over_any (n d : Ds) (w : World) : Calls Tryz.prog 238 #[.agg (dArr n), .agg (dArr d)] w fun e w' => e = .returned (.agg (dArr (Dc.over n d))) ∧ Below w.heap.size w w' := by
  have tval := fun W => there_any d.val W
  have tget := fun W => there_any d.get W
  have tset := fun W => there_any d.set W
  go_enter Tryz.func238, Tryz.ntmps238
  go_wp2_with (first | ((with_reducible show wpList _ _ _ (⟨some 2, .box 43 _, _, _, _, _⟩ :: _) _ _); refine wpList_box_blk rfl 43 _ rfl (dArr n) rfl ?_; intro w0 hA hLA hsA) | ((with_reducible show wpList _ _ _ (⟨some 3, .box 43 _, _, _, _, _⟩ :: _) _ _); refine wpList_box_blk rfl 43 _ rfl (dArr d) rfl ?_; intro w1 hB hLB hsB; have hA1 := hA.next hLB; have hL := more hLA hLB; rw [hsA] at hB; have hsB' : w1.heap.size = w.heap.size + 2 := (by omega); clear hsB) | ((with_reducible show wpList _ _ _ (⟨some 4, .alloc 43, _, _, _, _⟩ :: _) _ _); refine wpList_alloc_blk rfl 43 rfl (dArr Dc.d0) zero43 ?_; intro w2 hR hLR hsR; have hA2 := hA1.next hLR; have hB2 := hB.next hLR; have hL2 := more hL hLR; rw [hsB'] at hR; have hsR' : w2.heap.size = w.heap.size + 3 := (by omega); clear hsR))
  have hS0 := Blk.new w2 (rowV w.heap.size) 321
  rw [hsR'] at hS0
  have hO0 : OvSt w (w2.alloc (.cells (rowV w.heap.size) 321)) n d := ⟨hA2.alloc _, hB2.alloc _, hR.alloc _, more hL2 (one _ _)⟩
  have HO0 := Lib.hid (And.intro hO0 hS0)
  clear hS0 hO0 hA hLA hsA hB hLB hA1 hL hsB' hR hLR hA2 hB2 hL2
  go_loopw [20] (fun i wr => ∃ k : Nat, k ≤ 3 ∧ i = .int .i64 k ∧ OvSt w wr (ovV k n d) d ∧ Blk wr (w.heap.size + 3) (rowV w.heap.size) 321) (fun i wr => 3 - (intOf i).toNat)
  case atStart => exact ⟨0, by omega, rfl, HO0.out.1, HO0.out.2⟩
  case round =>
    obtain ⟨k, hk, rfl, hO, hS⟩ := hrel
    clear HO0 hsR'
    have hcS := hS.cell
    have hk' : k = 0 ∨ k = 1 ∨ k = 2 ∨ k = 3 := by omega
    rcases hk' with rfl | rfl | rfl | rfl
    · cases ht : Dc.there d.val
      · have hov : ovV 1 n d = ovV 0 n d := by simp [ovV, Dc.overV, ht]
        simp only [ht] at tval
        go_wp2_with (first | ((with_reducible show wpList _ _ _ (⟨_, .alloc 321, _, _, _, _⟩ :: _) _ _); refine wpList_alloc_blk rfl 321 rfl #[.pointer none, .pointer none] Tryz.zeroValue321 ?_; intro w4 hT hLT hsT; have hO4 := hO.next hLT; have hS4 := hS.next hLT) | ((with_reducible show wpList _ _ _ (⟨_, .store 321 _ _, _, _, _, _⟩ :: _) _ _); refine wpList_store_blk rfl 321 _ _ rfl wr.heap.size #[.pointer (some ⟨w.heap.size, 0, none⟩), .pointer (some ⟨w.heap.size + 1, 0, none⟩)] _ 321 rfl rfl hT (by kernel_rfl) rfl (by simp [Value.oneCell']) ?_; intro w5 hT5 hOT5; have hO5 := hO4.only hOT5 (by intro b hb; have := hO.lt; simp at hb; omega); have hS5 := hS4.only hOT5 (by have := hS.lt; simp; omega); have hcT5 := hT5.cell; have hcB5 := hO5.b.cellD) | (go_at_call 168; refine (tval _).mono ?_; rintro e w6 ⟨rfl, hb6⟩; have hT6 := hT5.next hb6; have hS6 := hS5.next hb6; have hO6 := hO5.next hb6))
        exact ⟨⟨1, by omega, rfl, by rw [hov]; exact hO6, hS6⟩, by simp [intOf]⟩
      · have hov : ovV 1 n d = { ovV 0 n d with val := d.val } := by simp [ovV, Dc.overV, ht]
        simp only [ht] at tval
        go_wp2_with (first | ((with_reducible show wpList _ _ _ (⟨_, .alloc 321, _, _, _, _⟩ :: _) _ _); refine wpList_alloc_blk rfl 321 rfl #[.pointer none, .pointer none] Tryz.zeroValue321 ?_; intro w4 hT hLT hsT; have hO4 := hO.next hLT; have hS4 := hS.next hLT) | ((with_reducible show wpList _ _ _ (⟨_, .store 321 _ _, _, _, _, _⟩ :: _) _ _); refine wpList_store_blk rfl 321 _ _ rfl wr.heap.size #[.pointer (some ⟨w.heap.size, 0, none⟩), .pointer (some ⟨w.heap.size + 1, 0, none⟩)] _ 321 rfl rfl hT (by kernel_rfl) rfl (by simp [Value.oneCell']) ?_; intro w5 hT5 hOT5; have hO5 := hO4.only hOT5 (by intro b hb; have := hO.lt; simp at hb; omega); have hS5 := hS4.only hOT5 (by have := hS.lt; simp; omega); have hcT5 := hT5.cell; have hcB5 := hO5.b.cellD) | (go_at_call 168; refine (tval _).mono ?_; rintro e w6 ⟨rfl, hb6⟩; have hT6 := hT5.next hb6; have hS6 := hS5.next hb6; have hO6 := hO5.next hb6))
        have f1 := hT6.cell
        have f2 := hO6.b.cellD
        have f3 := hO6.a.cellD
        have f4 := hO6.a.frozen
        have h9 := hO6.put (x' := ovV 1 n d) 0 (vCells d.val) (by rw [hov]; rfl)
        have H9 := Lib.hid h9
        have HS6 := Lib.hid hS6
        clear h9 hov
        go_region
        all_goals go_wp2
        all_goals exact ⟨⟨1, by omega, rfl, H9.out.1.drew, HS6.out.only H9.out.2.drew (by simp)⟩, by simp [intOf]⟩
    · cases ht : Dc.there d.get
      · have hov : ovV 2 n d = ovV 1 n d := by simp [ovV, Dc.overV, ht]
        simp only [ht] at tget
        go_wp2_with (first | ((with_reducible show wpList _ _ _ (⟨_, .alloc 321, _, _, _, _⟩ :: _) _ _); refine wpList_alloc_blk rfl 321 rfl #[.pointer none, .pointer none] Tryz.zeroValue321 ?_; intro w4 hT hLT hsT; have hO4 := hO.next hLT; have hS4 := hS.next hLT) | ((with_reducible show wpList _ _ _ (⟨_, .store 321 _ _, _, _, _, _⟩ :: _) _ _); refine wpList_store_blk rfl 321 _ _ rfl wr.heap.size #[.pointer (some ⟨w.heap.size, 5, none⟩), .pointer (some ⟨w.heap.size + 1, 5, none⟩)] _ 321 rfl rfl hT (by kernel_rfl) rfl (by simp [Value.oneCell']) ?_; intro w5 hT5 hOT5; have hO5 := hO4.only hOT5 (by intro b hb; have := hO.lt; simp at hb; omega); have hS5 := hS4.only hOT5 (by have := hS.lt; simp; omega); have hcT5 := hT5.cell; have hcB5 := hO5.b.cellD) | (go_at_call 168; refine (tget _).mono ?_; rintro e w6 ⟨rfl, hb6⟩; have hT6 := hT5.next hb6; have hS6 := hS5.next hb6; have hO6 := hO5.next hb6))
        exact ⟨⟨2, by omega, rfl, by rw [hov]; exact hO6, hS6⟩, by simp [intOf]⟩
      · have hov : ovV 2 n d = { ovV 1 n d with get := d.get } := by simp [ovV, Dc.overV, ht]
        simp only [ht] at tget
        go_wp2_with (first | ((with_reducible show wpList _ _ _ (⟨_, .alloc 321, _, _, _, _⟩ :: _) _ _); refine wpList_alloc_blk rfl 321 rfl #[.pointer none, .pointer none] Tryz.zeroValue321 ?_; intro w4 hT hLT hsT; have hO4 := hO.next hLT; have hS4 := hS.next hLT) | ((with_reducible show wpList _ _ _ (⟨_, .store 321 _ _, _, _, _, _⟩ :: _) _ _); refine wpList_store_blk rfl 321 _ _ rfl wr.heap.size #[.pointer (some ⟨w.heap.size, 5, none⟩), .pointer (some ⟨w.heap.size + 1, 5, none⟩)] _ 321 rfl rfl hT (by kernel_rfl) rfl (by simp [Value.oneCell']) ?_; intro w5 hT5 hOT5; have hO5 := hO4.only hOT5 (by intro b hb; have := hO.lt; simp at hb; omega); have hS5 := hS4.only hOT5 (by have := hS.lt; simp; omega); have hcT5 := hT5.cell; have hcB5 := hO5.b.cellD) | (go_at_call 168; refine (tget _).mono ?_; rintro e w6 ⟨rfl, hb6⟩; have hT6 := hT5.next hb6; have hS6 := hS5.next hb6; have hO6 := hO5.next hb6))
        have f1 := hT6.cell
        have f2 := hO6.b.cellD
        have f3 := hO6.a.cellD
        have f4 := hO6.a.frozen
        have h9 := hO6.put (x' := ovV 2 n d) 5 (vCells d.get) (by rw [hov]; rfl)
        have H9 := Lib.hid h9
        have HS6 := Lib.hid hS6
        clear h9 hov
        go_region
        all_goals go_wp2
        all_goals exact ⟨⟨2, by omega, rfl, H9.out.1.drew, HS6.out.only H9.out.2.drew (by simp)⟩, by simp [intOf]⟩
    · cases ht : Dc.there d.set
      · have hov : ovV 3 n d = ovV 2 n d := by simp [ovV, Dc.overV, ht]
        simp only [ht] at tset
        go_wp2_with (first | ((with_reducible show wpList _ _ _ (⟨_, .alloc 321, _, _, _, _⟩ :: _) _ _); refine wpList_alloc_blk rfl 321 rfl #[.pointer none, .pointer none] Tryz.zeroValue321 ?_; intro w4 hT hLT hsT; have hO4 := hO.next hLT; have hS4 := hS.next hLT) | ((with_reducible show wpList _ _ _ (⟨_, .store 321 _ _, _, _, _, _⟩ :: _) _ _); refine wpList_store_blk rfl 321 _ _ rfl wr.heap.size #[.pointer (some ⟨w.heap.size, 10, none⟩), .pointer (some ⟨w.heap.size + 1, 10, none⟩)] _ 321 rfl rfl hT (by kernel_rfl) rfl (by simp [Value.oneCell']) ?_; intro w5 hT5 hOT5; have hO5 := hO4.only hOT5 (by intro b hb; have := hO.lt; simp at hb; omega); have hS5 := hS4.only hOT5 (by have := hS.lt; simp; omega); have hcT5 := hT5.cell; have hcB5 := hO5.b.cellD) | (go_at_call 168; refine (tset _).mono ?_; rintro e w6 ⟨rfl, hb6⟩; have hT6 := hT5.next hb6; have hS6 := hS5.next hb6; have hO6 := hO5.next hb6))
        exact ⟨⟨3, by omega, rfl, by rw [hov]; exact hO6, hS6⟩, by simp [intOf]⟩
      · have hov : ovV 3 n d = { ovV 2 n d with set := d.set } := by simp [ovV, Dc.overV, ht]
        simp only [ht] at tset
        go_wp2_with (first | ((with_reducible show wpList _ _ _ (⟨_, .alloc 321, _, _, _, _⟩ :: _) _ _); refine wpList_alloc_blk rfl 321 rfl #[.pointer none, .pointer none] Tryz.zeroValue321 ?_; intro w4 hT hLT hsT; have hO4 := hO.next hLT; have hS4 := hS.next hLT) | ((with_reducible show wpList _ _ _ (⟨_, .store 321 _ _, _, _, _, _⟩ :: _) _ _); refine wpList_store_blk rfl 321 _ _ rfl wr.heap.size #[.pointer (some ⟨w.heap.size, 10, none⟩), .pointer (some ⟨w.heap.size + 1, 10, none⟩)] _ 321 rfl rfl hT (by kernel_rfl) rfl (by simp [Value.oneCell']) ?_; intro w5 hT5 hOT5; have hO5 := hO4.only hOT5 (by intro b hb; have := hO.lt; simp at hb; omega); have hS5 := hS4.only hOT5 (by have := hS.lt; simp; omega); have hcT5 := hT5.cell; have hcB5 := hO5.b.cellD) | (go_at_call 168; refine (tset _).mono ?_; rintro e w6 ⟨rfl, hb6⟩; have hT6 := hT5.next hb6; have hS6 := hS5.next hb6; have hO6 := hO5.next hb6))
        have f1 := hT6.cell
        have f2 := hO6.b.cellD
        have f3 := hO6.a.cellD
        have f4 := hO6.a.frozen
        have h9 := hO6.put (x' := ovV 3 n d) 10 (vCells d.set) (by rw [hov]; rfl)
        have H9 := Lib.hid h9
        have HS6 := Lib.hid hS6
        clear h9 hov
        go_region
        all_goals go_wp2
        all_goals exact ⟨⟨3, by omega, rfl, H9.out.1.drew, HS6.out.only H9.out.2.drew (by simp)⟩, by simp [intOf]⟩
    · go_wp2
      have hT0 := Blk.new wr (rowT w.heap.size) 323
      have hO1 : OvSt w (wr.alloc (.cells (rowT w.heap.size) 323)) (ovT 0 n d) d := hO.next (one _ _)
      have HO1 := Lib.hid (And.intro hO1 hT0)
      have hq := hO.lt
      generalize wr.heap.size = q at *
      clear hT0 hO1 hO hS hcS tval tget tset
      go_loopw [48] (fun i wr => ∃ k : Nat, k ≤ 3 ∧ i = .int .i64 k ∧ OvSt w wr (ovT k n d) d ∧ Blk wr q (rowT w.heap.size) 323) (fun i wr => 3 - (intOf i).toNat)
      case atStart => exact ⟨0, by omega, rfl, HO1.out.1, HO1.out.2⟩
      case round =>
        obtain ⟨k, hk, rfl, hO, hS⟩ := hrel
        clear HO1
        have hcS := hS.cell
        have hk' : k = 0 ∨ k = 1 ∨ k = 2 ∨ k = 3 := by omega
        rcases hk' with rfl | rfl | rfl | rfl
        · by_cases ht : d.w = 0
          · have hov : ovT 1 n d = ovT 0 n d := by simp [ovT, Dc.overT, ht]
            have hb0 : (d.w != 0) = false := by simp [ht]
            clear ht
            go_wp2_with (first | ((with_reducible show wpList _ _ _ (⟨_, .alloc 323, _, _, _, _⟩ :: _) _ _); refine wpList_alloc_blk rfl 323 rfl #[.pointer none, .pointer none] Tryz.zeroValue323 ?_; intro w4 hT hLT hsT; have hO4 := hO.next hLT; have hS4 := hS.next hLT) | ((with_reducible show wpList _ _ _ (⟨_, .store 323 _ _, _, _, _, _⟩ :: _) _ _); refine wpList_store_blk rfl 323 _ _ rfl wr.heap.size #[.pointer (some ⟨w.heap.size, 15, none⟩), .pointer (some ⟨w.heap.size + 1, 15, none⟩)] _ 323 rfl rfl hT (by kernel_rfl) rfl (by simp [Value.oneCell']) ?_; intro w5 hT5 hOT5; have hO5 := hO4.only hOT5 (by intro b hb; have := hO.lt; simp at hb; omega); have hS5 := hS4.only hOT5 (by have := hS.lt; simp; omega); have hcT5 := hT5.cell; have hcB5 := hO5.b.cellD; have hcA5 := hO5.a.cellD; have hfA5 := hO5.a.frozen))
            go_roundw
            case rel => exact ⟨_, _, _, _, _, _, _, _, _, _, _, _, _, _, _, _, _, _, ⟨1, by omega, rfl, by rw [hov]; exact hO5, hS5⟩, rfl⟩
            case measure => simp [intOf]
          · have hov : ovT 1 n d = { ovT 0 n d with w := d.w } := by simp [ovT, Dc.overT, ht]
            have hb0 : (d.w != 0) = true := by simp [ht]
            clear ht
            go_wp2_with (first | ((with_reducible show wpList _ _ _ (⟨_, .alloc 323, _, _, _, _⟩ :: _) _ _); refine wpList_alloc_blk rfl 323 rfl #[.pointer none, .pointer none] Tryz.zeroValue323 ?_; intro w4 hT hLT hsT; have hO4 := hO.next hLT; have hS4 := hS.next hLT) | ((with_reducible show wpList _ _ _ (⟨_, .store 323 _ _, _, _, _, _⟩ :: _) _ _); refine wpList_store_blk rfl 323 _ _ rfl wr.heap.size #[.pointer (some ⟨w.heap.size, 15, none⟩), .pointer (some ⟨w.heap.size + 1, 15, none⟩)] _ 323 rfl rfl hT (by kernel_rfl) rfl (by simp [Value.oneCell']) ?_; intro w5 hT5 hOT5; have hO5 := hO4.only hOT5 (by intro b hb; have := hO.lt; simp at hb; omega); have hS5 := hS4.only hOT5 (by have := hS.lt; simp; omega); have hcT5 := hT5.cell; have hcB5 := hO5.b.cellD; have hcA5 := hO5.a.cellD; have hfA5 := hO5.a.frozen))
            have h9 := hO5.put (x' := ovT 1 n d) 15 [.int .i64 d.w] (by rw [hov]; rfl)
            have H9 := Lib.hid h9
            have HS5 := Lib.hid hS5
            clear h9 hov
            go_region
            all_goals go_wp2
            go_roundw
            case rel => exact ⟨_, _, _, _, _, _, _, _, _, _, _, _, _, _, _, _, _, _, ⟨1, by omega, rfl, H9.out.1.drew, HS5.out.only H9.out.2.drew (by simp; omega)⟩, rfl⟩
            case measure => simp [intOf]
        · by_cases ht : d.e = 0
          · have hov : ovT 2 n d = ovT 1 n d := by simp [ovT, Dc.overT, ht]
            have hb0 : (d.e != 0) = false := by simp [ht]
            clear ht
            go_wp2_with (first | ((with_reducible show wpList _ _ _ (⟨_, .alloc 323, _, _, _, _⟩ :: _) _ _); refine wpList_alloc_blk rfl 323 rfl #[.pointer none, .pointer none] Tryz.zeroValue323 ?_; intro w4 hT hLT hsT; have hO4 := hO.next hLT; have hS4 := hS.next hLT) | ((with_reducible show wpList _ _ _ (⟨_, .store 323 _ _, _, _, _, _⟩ :: _) _ _); refine wpList_store_blk rfl 323 _ _ rfl wr.heap.size #[.pointer (some ⟨w.heap.size, 16, none⟩), .pointer (some ⟨w.heap.size + 1, 16, none⟩)] _ 323 rfl rfl hT (by kernel_rfl) rfl (by simp [Value.oneCell']) ?_; intro w5 hT5 hOT5; have hO5 := hO4.only hOT5 (by intro b hb; have := hO.lt; simp at hb; omega); have hS5 := hS4.only hOT5 (by have := hS.lt; simp; omega); have hcT5 := hT5.cell; have hcB5 := hO5.b.cellD; have hcA5 := hO5.a.cellD; have hfA5 := hO5.a.frozen))
            go_roundw
            case rel => exact ⟨_, _, _, _, _, _, _, _, _, _, _, _, _, _, _, _, _, _, ⟨2, by omega, rfl, by rw [hov]; exact hO5, hS5⟩, rfl⟩
            case measure => simp [intOf]
          · have hov : ovT 2 n d = { ovT 1 n d with e := d.e } := by simp [ovT, Dc.overT, ht]
            have hb0 : (d.e != 0) = true := by simp [ht]
            clear ht
            go_wp2_with (first | ((with_reducible show wpList _ _ _ (⟨_, .alloc 323, _, _, _, _⟩ :: _) _ _); refine wpList_alloc_blk rfl 323 rfl #[.pointer none, .pointer none] Tryz.zeroValue323 ?_; intro w4 hT hLT hsT; have hO4 := hO.next hLT; have hS4 := hS.next hLT) | ((with_reducible show wpList _ _ _ (⟨_, .store 323 _ _, _, _, _, _⟩ :: _) _ _); refine wpList_store_blk rfl 323 _ _ rfl wr.heap.size #[.pointer (some ⟨w.heap.size, 16, none⟩), .pointer (some ⟨w.heap.size + 1, 16, none⟩)] _ 323 rfl rfl hT (by kernel_rfl) rfl (by simp [Value.oneCell']) ?_; intro w5 hT5 hOT5; have hO5 := hO4.only hOT5 (by intro b hb; have := hO.lt; simp at hb; omega); have hS5 := hS4.only hOT5 (by have := hS.lt; simp; omega); have hcT5 := hT5.cell; have hcB5 := hO5.b.cellD; have hcA5 := hO5.a.cellD; have hfA5 := hO5.a.frozen))
            have h9 := hO5.put (x' := ovT 2 n d) 16 [.int .i64 d.e] (by rw [hov]; rfl)
            have H9 := Lib.hid h9
            have HS5 := Lib.hid hS5
            clear h9 hov
            go_region
            all_goals go_wp2
            go_roundw
            case rel => exact ⟨_, _, _, _, _, _, _, _, _, _, _, _, _, _, _, _, _, _, ⟨2, by omega, rfl, H9.out.1.drew, HS5.out.only H9.out.2.drew (by simp; omega)⟩, rfl⟩
            case measure => simp [intOf]
        · by_cases ht : d.c = 0
          · have hov : ovT 3 n d = ovT 2 n d := by simp [ovT, Dc.overT, ht]
            have hb0 : (d.c != 0) = false := by simp [ht]
            clear ht
            go_wp2_with (first | ((with_reducible show wpList _ _ _ (⟨_, .alloc 323, _, _, _, _⟩ :: _) _ _); refine wpList_alloc_blk rfl 323 rfl #[.pointer none, .pointer none] Tryz.zeroValue323 ?_; intro w4 hT hLT hsT; have hO4 := hO.next hLT; have hS4 := hS.next hLT) | ((with_reducible show wpList _ _ _ (⟨_, .store 323 _ _, _, _, _, _⟩ :: _) _ _); refine wpList_store_blk rfl 323 _ _ rfl wr.heap.size #[.pointer (some ⟨w.heap.size, 17, none⟩), .pointer (some ⟨w.heap.size + 1, 17, none⟩)] _ 323 rfl rfl hT (by kernel_rfl) rfl (by simp [Value.oneCell']) ?_; intro w5 hT5 hOT5; have hO5 := hO4.only hOT5 (by intro b hb; have := hO.lt; simp at hb; omega); have hS5 := hS4.only hOT5 (by have := hS.lt; simp; omega); have hcT5 := hT5.cell; have hcB5 := hO5.b.cellD; have hcA5 := hO5.a.cellD; have hfA5 := hO5.a.frozen))
            go_roundw
            case rel => exact ⟨_, _, _, _, _, _, _, _, _, _, _, _, _, _, _, _, _, _, ⟨3, by omega, rfl, by rw [hov]; exact hO5, hS5⟩, rfl⟩
            case measure => simp [intOf]
          · have hov : ovT 3 n d = { ovT 2 n d with c := d.c } := by simp [ovT, Dc.overT, ht]
            have hb0 : (d.c != 0) = true := by simp [ht]
            clear ht
            go_wp2_with (first | ((with_reducible show wpList _ _ _ (⟨_, .alloc 323, _, _, _, _⟩ :: _) _ _); refine wpList_alloc_blk rfl 323 rfl #[.pointer none, .pointer none] Tryz.zeroValue323 ?_; intro w4 hT hLT hsT; have hO4 := hO.next hLT; have hS4 := hS.next hLT) | ((with_reducible show wpList _ _ _ (⟨_, .store 323 _ _, _, _, _, _⟩ :: _) _ _); refine wpList_store_blk rfl 323 _ _ rfl wr.heap.size #[.pointer (some ⟨w.heap.size, 17, none⟩), .pointer (some ⟨w.heap.size + 1, 17, none⟩)] _ 323 rfl rfl hT (by kernel_rfl) rfl (by simp [Value.oneCell']) ?_; intro w5 hT5 hOT5; have hO5 := hO4.only hOT5 (by intro b hb; have := hO.lt; simp at hb; omega); have hS5 := hS4.only hOT5 (by have := hS.lt; simp; omega); have hcT5 := hT5.cell; have hcB5 := hO5.b.cellD; have hcA5 := hO5.a.cellD; have hfA5 := hO5.a.frozen))
            have h9 := hO5.put (x' := ovT 3 n d) 17 [.int .i64 d.c] (by rw [hov]; rfl)
            have H9 := Lib.hid h9
            have HS5 := Lib.hid hS5
            clear h9 hov
            go_region
            all_goals go_wp2
            go_roundw
            case rel => exact ⟨_, _, _, _, _, _, _, _, _, _, _, _, _, _, _, _, _, _, ⟨3, by omega, rfl, H9.out.1.drew, HS5.out.only H9.out.2.drew (by simp; omega)⟩, rfl⟩
            case measure => simp [intOf]
        · go_wp2_with (first | ((with_reducible show wpList _ _ _ (⟨_, .load 43 _, _, _, _, _⟩ :: _) _ _); refine wpList_load_blk rfl 43 _ rfl (w.heap.size) rfl hO.a Tryz.row43 Tryz.size43 ?_) | ((with_reducible show wpList _ _ _ (⟨_, .store 43 _ _, _, _, _, _⟩ :: _) _ _); refine wpList_store_blk rfl 43 _ _ rfl (w.heap.size + 2) (dArr (ovT 3 n d)) _ 43 rfl rfl hO.r Tryz.size43 rfl (dCells_one _) ?_; intro w9 hR9 hO9))
          have hov : ovT 3 n d = Dc.over n d := by simp [ovT, Dc.over]
          rw [hov] at hR9
          exact bodyPost_ret (results_cell Tryz.results238 rfl hR9 Tryz.row43 Tryz.size43) rfl ⟨rfl, below_only hO.below hO9 (by simp)⟩

end Go.Proofs.YtoalboilghgalaaGreatDoor

/- desc.Apply. -/
namespace Go.Proofs.YtoalboilghgalaaGreatDoor
open Go.RowKit
open Go.Proofs.Dc (V Ds Ky)
attribute [local go_sem] run_store_float

section
variable {P : Program}
/-- a whole struct is read under a guard that stands open -/
theorem wpList_load_blkW {ops : Array Oper} {rest : List Oper} {op : Oper} {a : Act} {W : World} {Q : Exit → Act → World → Prop} (hw : Region.wanted op (yielded ops a.tmps) = true) (ty : TypeId) (x : Operand) (ho : op.op = .load ty x)
    (b : Nat) (hx : a.eval x = .pointer (some ⟨b, 0, none⟩)) {C : Array Value} {t : TypeId} (hb : Blk W b C t) (hd : ∃ d, P.underlying ty = some d ∧ d.isRow = true) (hi : (P.info? ty).map (·.size) = some C.size)
    (h : wpList P ops Q rest (a.put op.dst (.agg C)) W) : wpList P ops Q (op :: rest) a W := by
  obtain ⟨d, hu, hd⟩ := hd
  rw [wpList, if_pos hw]
  refine .inl (wp_load_mid (P := P) ty x ho b 0 hx C.toList d (fun j v hv => by rw [Nat.zero_add, hb.cell]; simpa using hv) hu hd (by rw [hi, Array.length_toList]) ?_)
  rw [Array.toArray_toList]
  exact h
end

/-- the blocks of a call of desc.Apply -/
structure ApSt (w W : World) (n x r : Ds) : Prop where
  a : Blk W (w.heap.size) (dArr n) 43
  b : Blk W (w.heap.size + 1) (dArr x) 43
  r : Blk W (w.heap.size + 2) (dArr r) 43
  below : Below w.heap.size w W
theorem ApSt.next {w W W' : World} {n x r : Ds} (h : ApSt w W n x r) (hb : Below W.heap.size W W') : ApSt w W' n x r := ⟨h.a.next hb, h.b.next hb, h.r.next hb, more h.below hb⟩
theorem ApSt.setB {w W W' : World} {n x r x' : Ds} (h : ApSt w W n x r) (hb : Blk W' (w.heap.size + 1) (dArr x') 43) (ho : Only [w.heap.size + 1] W W') : ApSt w W' n x' r :=
  ⟨h.a.only ho (by simp), hb, h.r.only ho (by simp), below_only h.below ho (by simp)⟩
theorem ApSt.setR {w W W' : World} {n x r r' : Ds} (h : ApSt w W n x r) (hb : Blk W' (w.heap.size + 2) (dArr r') 43) (ho : Only [w.heap.size + 2] W W') : ApSt w W' n x r' :=
  ⟨h.a.only ho (by simp), h.b.only ho (by simp), hb, below_only h.below ho (by simp)⟩

theorem compl_eq {d : Ds} (h : Dc.kindB uvalid d = true) : compl d = Dc.complete uvalid d := by simp [compl, h]
theorem ret3 {a c : Ds} {b e : Bool} {x y : Int} (h : a = c) (h' : b = e) (h2 : x = y) : Ending.returned (.tuple #[.agg (dArr a), .bool b, .int .i64 x]) = .returned (.tuple #[.agg (dArr c), .bool e, .int .i64 y]) := by rw [h, h', h2]

theorem apply_zero (ext : Bool) (n d : Ds) (w : World) (hT : Tabs w) (hn : Nums n) (hd : Nums d) (hk : Dc.kindB uvalid d = true) (hz : Dc.zero n = true) : Calls Tryz.prog 220 #[.bool ext, .agg (dArr n), .agg (dArr d)] w fun e w' =>
    e = .returned (.tuple #[.agg (dArr (Dc.apply uvalid ext n d).1), .bool (Dc.apply uvalid ext n d).2, .int .i64 0]) ∧ Below w.heap.size w w' := by
  have cC := fun W (h : Below w.heap.size w W) => dcheck_any d W (hT.below h) hd
  have cW := fun W (h : Below w.heap.size w W) => whole_any n W (hT.below h) hn
  have cZ := fun W => zero_any n W hn
  have cM := fun W (h : Below w.heap.size w W) => complete_any d W (hT.below h) hd
  simp only [hk, if_true] at cC cM
  simp only [Dc.whole_zero hz] at cW
  simp only [hz] at cZ
  have hr : Dc.apply uvalid ext n d = if ext then (compl d, true) else (n, false) := by rw [compl_eq hk]; simp [Dc.apply, hz]
  rw [hr]
  clear hr hz hk hd hn hT
  cases ext
  all_goals
    simp only [if_true, Bool.false_eq_true, if_false]
    go_enter Tryz.func220, Tryz.ntmps220
    go_wp2_with (first | ((with_reducible show wpList _ _ _ (⟨some 4, .box 43 _, _, _, _, _⟩ :: _) _ _); refine wpList_box_blk rfl 43 _ rfl (dArr n) rfl ?_; intro w0 hA hLA hsA) | ((with_reducible show wpList _ _ _ (⟨some 5, .box 43 _, _, _, _, _⟩ :: _) _ _); refine wpList_box_blk rfl 43 _ rfl (dArr d) rfl ?_; intro w1 hB hLB hsB; have hA1 := hA.next hLB; have hL := more hLA hLB; rw [hsA] at hB; have hsB' : w1.heap.size = w.heap.size + 2 := (by omega); clear hsB) | ((with_reducible show wpList _ _ _ (⟨some 6, .alloc 43, _, _, _, _⟩ :: _) _ _); refine wpList_alloc_blk rfl 43 rfl (dArr Dc.d0) zero43 ?_; intro w2 hR hLR hsR; rw [hsB'] at hR; have hS : ApSt w w2 n d Dc.d0 := ⟨hA1.next hLR, hB.next hLR, hR, more hL hLR⟩; have hcA := hS.a.cellD; clear hA hLA hB hLB hA1 hL hR hLR hsR) | ((with_reducible show wpList _ _ _ (⟨some 17, .load 43 _, _, _, _, _⟩ :: _) _ _); refine wpList_load_blkW rfl 43 _ rfl (w.heap.size) rfl (show ApSt w _ _ _ _ from by assumption).a Tryz.row43 Tryz.size43 ?_) | ((with_reducible show wpList _ _ _ (⟨some 21, .load 43 _, _, _, _, _⟩ :: _) _ _); refine wpList_load_blkW rfl 43 _ rfl (w.heap.size) rfl (show ApSt w _ _ _ _ from by assumption).a Tryz.row43 Tryz.size43 ?_) | ((with_reducible show wpList _ _ _ (⟨some 27, .load 43 _, _, _, _, _⟩ :: _) _ _); refine wpList_load_blkW rfl 43 _ rfl (w.heap.size) rfl (show ApSt w _ _ _ _ from by assumption).a Tryz.row43 Tryz.size43 ?_) | ((with_reducible show wpList _ _ _ (⟨some 31, .load 43 _, _, _, _, _⟩ :: _) _ _); refine wpList_load_blkW rfl 43 _ rfl (w.heap.size) rfl (show ApSt w _ _ _ _ from by assumption).a Tryz.row43 Tryz.size43 ?_) | ((with_reducible show wpList _ _ _ (⟨some 42, .load 43 _, _, _, _, _⟩ :: _) _ _); refine wpList_load_blkW rfl 43 _ rfl (w.heap.size) rfl (show ApSt w _ _ _ _ from by assumption).a Tryz.row43 Tryz.size43 ?_) | ((with_reducible show wpList _ _ _ (⟨some 46, .load 43 _, _, _, _, _⟩ :: _) _ _); refine wpList_load_blkW rfl 43 _ rfl (w.heap.size) rfl (show ApSt w _ _ _ _ from by assumption).a Tryz.row43 Tryz.size43 ?_) | ((with_reducible show wpList _ _ _ (⟨some 53, .load 43 _, _, _, _, _⟩ :: _) _ _); refine wpList_load_blkW rfl 43 _ rfl (w.heap.size) rfl (show ApSt w _ _ _ _ from by assumption).a Tryz.row43 Tryz.size43 ?_) | ((with_reducible show wpList _ _ _ (⟨some 78, .load 43 _, _, _, _, _⟩ :: _) _ _); refine wpList_load_blkW rfl 43 _ rfl (w.heap.size) rfl (show ApSt w _ _ _ _ from by assumption).a Tryz.row43 Tryz.size43 ?_) | ((with_reducible show wpList _ _ _ (⟨some 13, .load 43 _, _, _, _, _⟩ :: _) _ _); refine wpList_load_blkW rfl 43 _ rfl (w.heap.size + 1) rfl (show ApSt w _ _ _ _ from by assumption).b Tryz.row43 Tryz.size43 ?_) | ((with_reducible show wpList _ _ _ (⟨some 33, .load 43 _, _, _, _, _⟩ :: _) _ _); refine wpList_load_blkW rfl 43 _ rfl (w.heap.size + 1) rfl (show ApSt w _ _ _ _ from by assumption).b Tryz.row43 Tryz.size43 ?_) | ((with_reducible show wpList _ _ _ (⟨some 37, .load 43 _, _, _, _, _⟩ :: _) _ _); refine wpList_load_blkW rfl 43 _ rfl (w.heap.size + 1) rfl (show ApSt w _ _ _ _ from by assumption).b Tryz.row43 Tryz.size43 ?_) | ((with_reducible show wpList _ _ _ (⟨some 43, .load 43 _, _, _, _, _⟩ :: _) _ _); refine wpList_load_blkW rfl 43 _ rfl (w.heap.size + 1) rfl (show ApSt w _ _ _ _ from by assumption).b Tryz.row43 Tryz.size43 ?_) | ((with_reducible show wpList _ _ _ (⟨some 48, .load 43 _, _, _, _, _⟩ :: _) _ _); refine wpList_load_blkW rfl 43 _ rfl (w.heap.size + 1) rfl (show ApSt w _ _ _ _ from by assumption).b Tryz.row43 Tryz.size43 ?_) | ((with_reducible show wpList _ _ _ (⟨some 73, .load 43 _, _, _, _, _⟩ :: _) _ _); refine wpList_load_blkW rfl 43 _ rfl (w.heap.size + 1) rfl (show ApSt w _ _ _ _ from by assumption).b Tryz.row43 Tryz.size43 ?_) | ((with_reducible show wpList _ _ _ (⟨some 77, .load 43 _, _, _, _, _⟩ :: _) _ _); refine wpList_load_blkW rfl 43 _ rfl (w.heap.size + 1) rfl (show ApSt w _ _ _ _ from by assumption).b Tryz.row43 Tryz.size43 ?_) | ((with_reducible show wpList _ _ _ (⟨some 79, .load 43 _, _, _, _, _⟩ :: _) _ _); refine wpList_load_blkW rfl 43 _ rfl (w.heap.size + 1) rfl (show ApSt w _ _ _ _ from by assumption).b Tryz.row43 Tryz.size43 ?_) | (go_at_call 104; refine (cC _ (show ApSt w _ _ _ _ from by assumption).below).mono ?_; rintro e u ⟨rfl, hb⟩; have hS := (show ApSt w _ _ _ _ from by assumption).next hb; have hcA := hS.a.cellD) | (go_at_call 233; refine (cW _ (show ApSt w _ _ _ _ from by assumption).below).mono ?_; rintro e u ⟨rfl, hb⟩; have hS := (show ApSt w _ _ _ _ from by assumption).next hb; have hcA := hS.a.cellD) | (go_at_call 234; refine (cZ _).mono ?_; rintro e u ⟨rfl, hb⟩; have hS := (show ApSt w _ _ _ _ from by assumption).next hb; have hcA := hS.a.cellD) | (go_at_call 235; refine (cM _ (show ApSt w _ _ _ _ from by assumption).below).mono ?_; rintro e u ⟨rfl, hb⟩; have hS := (show ApSt w _ _ _ _ from by assumption).next hb; have hcA := hS.a.cellD) | (((with_reducible show wpList _ _ _ (⟨_, .store 43 (.tmp 5) _, _, _, _, _⟩ :: _) _ _)); refine wpList_store_blk rfl 43 _ _ rfl (w.heap.size + 1) (dArr _) (dArr _) 43 rfl rfl (show ApSt w _ _ _ _ from by assumption).b Tryz.size43 (Eq.refl 18) (dCells_one _) ?_; intro u hBk hO; have hS := (show ApSt w _ _ _ _ from by assumption).setB hBk hO; have hcA := hS.a.cellD) | (((with_reducible show wpList _ _ _ (⟨_, .store 43 (.tmp 6) _, _, _, _, _⟩ :: _) _ _)); refine wpList_store_blk rfl 43 _ _ rfl (w.heap.size + 2) (dArr _) (dArr _) 43 rfl rfl (show ApSt w _ _ _ _ from by assumption).r Tryz.size43 (Eq.refl 18) (dCells_one _) ?_; intro u hBk hO; have hS := (show ApSt w _ _ _ _ from by assumption).setR hBk hO))
    exact bodyPost_ret (results_cell_tmp2 Tryz.results220 rfl (show ApSt w _ _ _ _ from by assumption).r Tryz.row43 Tryz.size43) rfl ⟨rfl, (show ApSt w _ _ _ _ from by assumption).below⟩

theorem apply_bad (ext : Bool) (n d : Ds) (w : World) (hT : Tabs w) (hd : Nums d) (hk : Dc.kindB uvalid d = false) : Calls Tryz.prog 220 #[.bool ext, .agg (dArr n), .agg (dArr d)] w fun e w' =>
    e = .returned (.tuple #[.agg (dArr Dc.d0), .bool false, .int .i64 5]) ∧ Below w.heap.size w w' := by
  have cC := fun W (h : Below w.heap.size w W) => dcheck_any d W (hT.below h) hd
  simp only [hk, Bool.false_eq_true, if_false] at cC
  clear hk hd hT
  go_enter Tryz.func220, Tryz.ntmps220
  go_wp2_with (first | ((with_reducible show wpList _ _ _ (⟨some 4, .box 43 _, _, _, _, _⟩ :: _) _ _); refine wpList_box_blk rfl 43 _ rfl (dArr n) rfl ?_; intro w0 hA hLA hsA) | ((with_reducible show wpList _ _ _ (⟨some 5, .box 43 _, _, _, _, _⟩ :: _) _ _); refine wpList_box_blk rfl 43 _ rfl (dArr d) rfl ?_; intro w1 hB hLB hsB; have hA1 := hA.next hLB; have hL := more hLA hLB; rw [hsA] at hB; have hsB' : w1.heap.size = w.heap.size + 2 := (by omega); clear hsB) | ((with_reducible show wpList _ _ _ (⟨some 6, .alloc 43, _, _, _, _⟩ :: _) _ _); refine wpList_alloc_blk rfl 43 rfl (dArr Dc.d0) zero43 ?_; intro w2 hR hLR hsR; rw [hsB'] at hR; have hS : ApSt w w2 n d Dc.d0 := ⟨hA1.next hLR, hB.next hLR, hR, more hL hLR⟩; have hcA := hS.a.cellD; clear hA hLA hB hLB hA1 hL hR hLR hsR) | ((with_reducible show wpList _ _ _ (⟨some 17, .load 43 _, _, _, _, _⟩ :: _) _ _); refine wpList_load_blkW rfl 43 _ rfl (w.heap.size) rfl (show ApSt w _ _ _ _ from by assumption).a Tryz.row43 Tryz.size43 ?_) | ((with_reducible show wpList _ _ _ (⟨some 21, .load 43 _, _, _, _, _⟩ :: _) _ _); refine wpList_load_blkW rfl 43 _ rfl (w.heap.size) rfl (show ApSt w _ _ _ _ from by assumption).a Tryz.row43 Tryz.size43 ?_) | ((with_reducible show wpList _ _ _ (⟨some 27, .load 43 _, _, _, _, _⟩ :: _) _ _); refine wpList_load_blkW rfl 43 _ rfl (w.heap.size) rfl (show ApSt w _ _ _ _ from by assumption).a Tryz.row43 Tryz.size43 ?_) | ((with_reducible show wpList _ _ _ (⟨some 31, .load 43 _, _, _, _, _⟩ :: _) _ _); refine wpList_load_blkW rfl 43 _ rfl (w.heap.size) rfl (show ApSt w _ _ _ _ from by assumption).a Tryz.row43 Tryz.size43 ?_) | ((with_reducible show wpList _ _ _ (⟨some 42, .load 43 _, _, _, _, _⟩ :: _) _ _); refine wpList_load_blkW rfl 43 _ rfl (w.heap.size) rfl (show ApSt w _ _ _ _ from by assumption).a Tryz.row43 Tryz.size43 ?_) | ((with_reducible show wpList _ _ _ (⟨some 46, .load 43 _, _, _, _, _⟩ :: _) _ _); refine wpList_load_blkW rfl 43 _ rfl (w.heap.size) rfl (show ApSt w _ _ _ _ from by assumption).a Tryz.row43 Tryz.size43 ?_) | ((with_reducible show wpList _ _ _ (⟨some 53, .load 43 _, _, _, _, _⟩ :: _) _ _); refine wpList_load_blkW rfl 43 _ rfl (w.heap.size) rfl (show ApSt w _ _ _ _ from by assumption).a Tryz.row43 Tryz.size43 ?_) | ((with_reducible show wpList _ _ _ (⟨some 78, .load 43 _, _, _, _, _⟩ :: _) _ _); refine wpList_load_blkW rfl 43 _ rfl (w.heap.size) rfl (show ApSt w _ _ _ _ from by assumption).a Tryz.row43 Tryz.size43 ?_) | ((with_reducible show wpList _ _ _ (⟨some 13, .load 43 _, _, _, _, _⟩ :: _) _ _); refine wpList_load_blkW rfl 43 _ rfl (w.heap.size + 1) rfl (show ApSt w _ _ _ _ from by assumption).b Tryz.row43 Tryz.size43 ?_) | ((with_reducible show wpList _ _ _ (⟨some 33, .load 43 _, _, _, _, _⟩ :: _) _ _); refine wpList_load_blkW rfl 43 _ rfl (w.heap.size + 1) rfl (show ApSt w _ _ _ _ from by assumption).b Tryz.row43 Tryz.size43 ?_) | ((with_reducible show wpList _ _ _ (⟨some 37, .load 43 _, _, _, _, _⟩ :: _) _ _); refine wpList_load_blkW rfl 43 _ rfl (w.heap.size + 1) rfl (show ApSt w _ _ _ _ from by assumption).b Tryz.row43 Tryz.size43 ?_) | ((with_reducible show wpList _ _ _ (⟨some 43, .load 43 _, _, _, _, _⟩ :: _) _ _); refine wpList_load_blkW rfl 43 _ rfl (w.heap.size + 1) rfl (show ApSt w _ _ _ _ from by assumption).b Tryz.row43 Tryz.size43 ?_) | ((with_reducible show wpList _ _ _ (⟨some 48, .load 43 _, _, _, _, _⟩ :: _) _ _); refine wpList_load_blkW rfl 43 _ rfl (w.heap.size + 1) rfl (show ApSt w _ _ _ _ from by assumption).b Tryz.row43 Tryz.size43 ?_) | ((with_reducible show wpList _ _ _ (⟨some 73, .load 43 _, _, _, _, _⟩ :: _) _ _); refine wpList_load_blkW rfl 43 _ rfl (w.heap.size + 1) rfl (show ApSt w _ _ _ _ from by assumption).b Tryz.row43 Tryz.size43 ?_) | ((with_reducible show wpList _ _ _ (⟨some 77, .load 43 _, _, _, _, _⟩ :: _) _ _); refine wpList_load_blkW rfl 43 _ rfl (w.heap.size + 1) rfl (show ApSt w _ _ _ _ from by assumption).b Tryz.row43 Tryz.size43 ?_) | ((with_reducible show wpList _ _ _ (⟨some 79, .load 43 _, _, _, _, _⟩ :: _) _ _); refine wpList_load_blkW rfl 43 _ rfl (w.heap.size + 1) rfl (show ApSt w _ _ _ _ from by assumption).b Tryz.row43 Tryz.size43 ?_) | (go_at_call 104; refine (cC _ (show ApSt w _ _ _ _ from by assumption).below).mono ?_; rintro e u ⟨rfl, hb⟩; have hS := (show ApSt w _ _ _ _ from by assumption).next hb; have hcA := hS.a.cellD) | (((with_reducible show wpList _ _ _ (⟨_, .store 43 (.tmp 6) _, _, _, _, _⟩ :: _) _ _)); refine wpList_store_blk rfl 43 _ _ rfl (w.heap.size + 2) (dArr Dc.d0) (dArr _) 43 rfl rfl (show ApSt w _ _ _ _ from by assumption).r Tryz.size43 (Eq.refl 18) (dCells_one _) ?_; intro u hBk hO; have hS := (show ApSt w _ _ _ _ from by assumption).setR hBk hO))
  exact bodyPost_ret (results_cell_tmp2 Tryz.results220 rfl (show ApSt w _ _ _ _ from by assumption).r Tryz.row43 Tryz.size43) rfl ⟨rfl, (show ApSt w _ _ _ _ from by assumption).below⟩

theorem apply_whole (ext : Bool) (n d : Ds) (w : World) (hT : Tabs w) (hn : Nums n) (hd : Nums d) (hk : Dc.kindB uvalid d = true) (hw : Dc.Whole uvalid n) : Calls Tryz.prog 220 #[.bool ext, .agg (dArr n), .agg (dArr d)] w fun e w' =>
    e = .returned (.tuple #[.agg (dArr (Dc.apply uvalid ext n d).1), .bool (Dc.apply uvalid ext n d).2, .int .i64 0]) ∧ Below w.heap.size w w' := by
  have hk2 : Dc.kindB uvalid { d with e := Dc.fillT d.e n.e, c := Dc.fillT d.c n.c } = true := by
    have hf : Dc.formed uvalid d = true := by
      cases hh : Dc.formed uvalid d
      · simp [Dc.kindB, hh] at hk
      · rfl
    refine Dc.formed_with hk (Dc.fillT_tri (Dc.formed_iff.1 hf).2.2.2.2.1 (Dc.tri_iff.2 ?_)) (Dc.fillT_tri (Dc.formed_iff.1 hf).2.2.2.2.2 (Dc.tri_iff.2 ?_))
    · have := hw.e; omega
    · have := hw.c; omega
  have cC := fun W (h : Below w.heap.size w W) => dcheck_any d W (hT.below h) hd
  have cW := fun W (h : Below w.heap.size w W) => whole_any n W (hT.below h) hn
  have cZ := fun W => zero_any n W hn
  have cB := fun W (h : Below w.heap.size w W) => barred_any n d W (hT.below h) hn hd
  have kD := fun W (h : Below w.heap.size w W) => kind_any d W (hT.below h) hd
  have kN := fun W (h : Below w.heap.size w W) => kind_any n W (hT.below h) hn
  have cO := fun W => over_any n d W
  have cM := fun W (h : Below w.heap.size w W) => complete_any { d with e := Dc.fillT d.e n.e, c := Dc.fillT d.c n.c } W (hT.below h) ⟨hd.val, hd.get, hd.set⟩
  simp only [hk, hk2, hw.kindB, if_true] at cC cM kD kN
  simp only [hw.whole] at cW
  simp only [hw.zero] at cZ
  rw [compl_eq hk2] at cM
  have hr : Dc.apply uvalid ext n d = if n.c == 1 && Dc.barred uvalid n d then (n, false) else if ¬ ((Dc.kindN uvalid d : Nat) : Int) = 0 ∧ ¬ ((Dc.kindN uvalid d : Nat) : Int) = ((Dc.kindN uvalid n : Nat) : Int) then (Dc.complete uvalid { d with e := Dc.fillT d.e n.e, c := Dc.fillT d.c n.c }, true) else (Dc.over n d, true) := by
    have e0 : (((Dc.kindN uvalid d : Nat) : Int) = 0) = (Dc.kindN uvalid d = 0) := by simp
    have e1 : (((Dc.kindN uvalid d : Nat) : Int) = (Dc.kindN uvalid n : Nat)) = (Dc.kindN uvalid d = Dc.kindN uvalid n) := by simp; omega
    simp only [e0, e1]
    simp [Dc.apply, hw.zero]
  generalize Dc.apply uvalid ext n d = R at *
  generalize Dc.complete uvalid { d with e := Dc.fillT d.e n.e, c := Dc.fillT d.c n.c } = R1 at *
  generalize Dc.barred uvalid n d = R2 at *
  generalize ((Dc.kindN uvalid d : Nat) : Int) = KD at *
  generalize ((Dc.kindN uvalid n : Nat) : Int) = KN at *
  clear hk2 hk hw hd hn hT
  cases h1 : (n.c == 1) <;> cases R2 <;> simp only [h1, Bool.true_and, Bool.false_and, Bool.false_eq_true, if_false, if_true] at hr
  all_goals
    by_cases h2 : KD = 0
    · have b2 : (KD == 0) = true := by simpa using h2
      have b2' : (KD != 0) = false := by simp [h2]
      first
        | (rw [if_neg (by simp [h2])] at hr)
        | skip
      rw [hr]
      clear hr h2
      go_enter Tryz.func220, Tryz.ntmps220
      go_wp2_with (first | ((with_reducible show wpList _ _ _ (⟨some 4, .box 43 _, _, _, _, _⟩ :: _) _ _); refine wpList_box_blk rfl 43 _ rfl (dArr n) rfl ?_; intro w0 hA hLA hsA) | ((with_reducible show wpList _ _ _ (⟨some 5, .box 43 _, _, _, _, _⟩ :: _) _ _); refine wpList_box_blk rfl 43 _ rfl (dArr d) rfl ?_; intro w1 hB hLB hsB; have hA1 := hA.next hLB; have hL := more hLA hLB; rw [hsA] at hB; have hsB' : w1.heap.size = w.heap.size + 2 := (by omega); clear hsB) | ((with_reducible show wpList _ _ _ (⟨some 6, .alloc 43, _, _, _, _⟩ :: _) _ _); refine wpList_alloc_blk rfl 43 rfl (dArr Dc.d0) zero43 ?_; intro w2 hR hLR hsR; rw [hsB'] at hR; have hS : ApSt w w2 n d Dc.d0 := ⟨hA1.next hLR, hB.next hLR, hR, more hL hLR⟩; have hcA := hS.a.cellD; clear hA hLA hB hLB hA1 hL hR hLR hsR) | ((with_reducible show wpList _ _ _ (⟨some 17, .load 43 _, _, _, _, _⟩ :: _) _ _); refine wpList_load_blkW rfl 43 _ rfl (w.heap.size) rfl (show ApSt w _ _ _ _ from by assumption).a Tryz.row43 Tryz.size43 ?_) | ((with_reducible show wpList _ _ _ (⟨some 21, .load 43 _, _, _, _, _⟩ :: _) _ _); refine wpList_load_blkW rfl 43 _ rfl (w.heap.size) rfl (show ApSt w _ _ _ _ from by assumption).a Tryz.row43 Tryz.size43 ?_) | ((with_reducible show wpList _ _ _ (⟨some 27, .load 43 _, _, _, _, _⟩ :: _) _ _); refine wpList_load_blkW rfl 43 _ rfl (w.heap.size) rfl (show ApSt w _ _ _ _ from by assumption).a Tryz.row43 Tryz.size43 ?_) | ((with_reducible show wpList _ _ _ (⟨some 31, .load 43 _, _, _, _, _⟩ :: _) _ _); refine wpList_load_blkW rfl 43 _ rfl (w.heap.size) rfl (show ApSt w _ _ _ _ from by assumption).a Tryz.row43 Tryz.size43 ?_) | ((with_reducible show wpList _ _ _ (⟨some 42, .load 43 _, _, _, _, _⟩ :: _) _ _); refine wpList_load_blkW rfl 43 _ rfl (w.heap.size) rfl (show ApSt w _ _ _ _ from by assumption).a Tryz.row43 Tryz.size43 ?_) | ((with_reducible show wpList _ _ _ (⟨some 46, .load 43 _, _, _, _, _⟩ :: _) _ _); refine wpList_load_blkW rfl 43 _ rfl (w.heap.size) rfl (show ApSt w _ _ _ _ from by assumption).a Tryz.row43 Tryz.size43 ?_) | ((with_reducible show wpList _ _ _ (⟨some 53, .load 43 _, _, _, _, _⟩ :: _) _ _); refine wpList_load_blkW rfl 43 _ rfl (w.heap.size) rfl (show ApSt w _ _ _ _ from by assumption).a Tryz.row43 Tryz.size43 ?_) | ((with_reducible show wpList _ _ _ (⟨some 78, .load 43 _, _, _, _, _⟩ :: _) _ _); refine wpList_load_blkW rfl 43 _ rfl (w.heap.size) rfl (show ApSt w _ _ _ _ from by assumption).a Tryz.row43 Tryz.size43 ?_) | ((with_reducible show wpList _ _ _ (⟨some 13, .load 43 _, _, _, _, _⟩ :: _) _ _); refine wpList_load_blkW rfl 43 _ rfl (w.heap.size + 1) rfl (show ApSt w _ _ _ _ from by assumption).b Tryz.row43 Tryz.size43 ?_) | ((with_reducible show wpList _ _ _ (⟨some 33, .load 43 _, _, _, _, _⟩ :: _) _ _); refine wpList_load_blkW rfl 43 _ rfl (w.heap.size + 1) rfl (show ApSt w _ _ _ _ from by assumption).b Tryz.row43 Tryz.size43 ?_) | ((with_reducible show wpList _ _ _ (⟨some 37, .load 43 _, _, _, _, _⟩ :: _) _ _); refine wpList_load_blkW rfl 43 _ rfl (w.heap.size + 1) rfl (show ApSt w _ _ _ _ from by assumption).b Tryz.row43 Tryz.size43 ?_) | ((with_reducible show wpList _ _ _ (⟨some 43, .load 43 _, _, _, _, _⟩ :: _) _ _); refine wpList_load_blkW rfl 43 _ rfl (w.heap.size + 1) rfl (show ApSt w _ _ _ _ from by assumption).b Tryz.row43 Tryz.size43 ?_) | ((with_reducible show wpList _ _ _ (⟨some 48, .load 43 _, _, _, _, _⟩ :: _) _ _); refine wpList_load_blkW rfl 43 _ rfl (w.heap.size + 1) rfl (show ApSt w _ _ _ _ from by assumption).b Tryz.row43 Tryz.size43 ?_) | ((with_reducible show wpList _ _ _ (⟨some 73, .load 43 _, _, _, _, _⟩ :: _) _ _); refine wpList_load_blkW rfl 43 _ rfl (w.heap.size + 1) rfl (show ApSt w _ _ _ _ from by assumption).b Tryz.row43 Tryz.size43 ?_) | ((with_reducible show wpList _ _ _ (⟨some 77, .load 43 _, _, _, _, _⟩ :: _) _ _); refine wpList_load_blkW rfl 43 _ rfl (w.heap.size + 1) rfl (show ApSt w _ _ _ _ from by assumption).b Tryz.row43 Tryz.size43 ?_) | ((with_reducible show wpList _ _ _ (⟨some 79, .load 43 _, _, _, _, _⟩ :: _) _ _); refine wpList_load_blkW rfl 43 _ rfl (w.heap.size + 1) rfl (show ApSt w _ _ _ _ from by assumption).b Tryz.row43 Tryz.size43 ?_) | (go_at_call 104; refine (cC _ (show ApSt w _ _ _ _ from by assumption).below).mono ?_; rintro e u ⟨rfl, hb⟩; have hS := (show ApSt w _ _ _ _ from by assumption).next hb; have hcA := hS.a.cellD) | (go_at_call 233; refine (cW _ (show ApSt w _ _ _ _ from by assumption).below).mono ?_; rintro e u ⟨rfl, hb⟩; have hS := (show ApSt w _ _ _ _ from by assumption).next hb; have hcA := hS.a.cellD) | (go_at_call 234; refine (cZ _).mono ?_; rintro e u ⟨rfl, hb⟩; have hS := (show ApSt w _ _ _ _ from by assumption).next hb; have hcA := hS.a.cellD) | (go_at_call 236; refine (cB _ (show ApSt w _ _ _ _ from by assumption).below).mono ?_; rintro e u ⟨rfl, hb⟩; have hS := (show ApSt w _ _ _ _ from by assumption).next hb; have hcA := hS.a.cellD) | (go_at_call_of 139 (dArr d); refine (kD _ (show ApSt w _ _ _ _ from by assumption).below).mono ?_; rintro e u ⟨rfl, hb⟩; have hS := (show ApSt w _ _ _ _ from by assumption).next hb; have hcA := hS.a.cellD) | (go_at_call_of 139 (dArr n); refine (kN _ (show ApSt w _ _ _ _ from by assumption).below).mono ?_; rintro e u ⟨rfl, hb⟩; have hS := (show ApSt w _ _ _ _ from by assumption).next hb; have hcA := hS.a.cellD) | (go_at_call_of 237 n.e; go_must (refine (fillT_e _ _ _ _ (show ApSt w _ _ _ _ from by assumption).b).mono ?_; rintro e u ⟨rfl, hBk, hO⟩; have hS := (show ApSt w _ _ _ _ from by assumption).setB hBk hO; have hcA := hS.a.cellD)) | (go_at_call_of 237 n.c; go_must (refine (fillT_c _ _ _ _ (show ApSt w _ _ _ _ from by assumption).b).mono ?_; rintro e u ⟨rfl, hBk, hO⟩; have hS := (show ApSt w _ _ _ _ from by assumption).setB hBk hO; have hcA := hS.a.cellD)) | (go_at_call 238; refine (cO _).mono ?_; rintro e u ⟨rfl, hb⟩; have hS := (show ApSt w _ _ _ _ from by assumption).next hb; have hcA := hS.a.cellD) | (go_at_call 235; refine (cM _ (show ApSt w _ _ _ _ from by assumption).below).mono ?_; rintro e u ⟨rfl, hb⟩; have hS := (show ApSt w _ _ _ _ from by assumption).next hb; have hcA := hS.a.cellD) | (((with_reducible show wpList _ _ _ (⟨_, .store 43 (.tmp 5) _, _, _, _, _⟩ :: _) _ _)); refine wpList_store_blk rfl 43 _ _ rfl (w.heap.size + 1) (dArr _) (dArr _) 43 rfl rfl (show ApSt w _ _ _ _ from by assumption).b Tryz.size43 (Eq.refl 18) (dCells_one _) ?_; intro u hBk hO; have hS := (show ApSt w _ _ _ _ from by assumption).setB hBk hO; have hcA := hS.a.cellD) | (((with_reducible show wpList _ _ _ (⟨_, .store 43 (.tmp 6) _, _, _, _, _⟩ :: _) _ _)); refine wpList_store_blk rfl 43 _ _ rfl (w.heap.size + 2) (dArr _) (dArr _) 43 rfl rfl (show ApSt w _ _ _ _ from by assumption).r Tryz.size43 (Eq.refl 18) (dCells_one _) ?_; intro u hBk hO; have hS := (show ApSt w _ _ _ _ from by assumption).setR hBk hO))
      exact bodyPost_ret (results_cell_tmp2 Tryz.results220 rfl (show ApSt w _ _ _ _ from by assumption).r Tryz.row43 Tryz.size43) rfl ⟨rfl, (show ApSt w _ _ _ _ from by assumption).below⟩
    · by_cases h3 : KD = KN
      · first
          | (rw [if_neg (by simp [h3])] at hr)
          | skip
        have b2 : (KD != 0) = true := by simp [h2]
        have b3 : (KD != KN) = false := by simp [h3]
        rw [hr]
        have H2 := Lib.hid (And.intro h2 h3)
        clear hr h2 h3
        go_enter Tryz.func220, Tryz.ntmps220
        go_wp2_with (first | ((with_reducible show wpList _ _ _ (⟨some 4, .box 43 _, _, _, _, _⟩ :: _) _ _); refine wpList_box_blk rfl 43 _ rfl (dArr n) rfl ?_; intro w0 hA hLA hsA) | ((with_reducible show wpList _ _ _ (⟨some 5, .box 43 _, _, _, _, _⟩ :: _) _ _); refine wpList_box_blk rfl 43 _ rfl (dArr d) rfl ?_; intro w1 hB hLB hsB; have hA1 := hA.next hLB; have hL := more hLA hLB; rw [hsA] at hB; have hsB' : w1.heap.size = w.heap.size + 2 := (by omega); clear hsB) | ((with_reducible show wpList _ _ _ (⟨some 6, .alloc 43, _, _, _, _⟩ :: _) _ _); refine wpList_alloc_blk rfl 43 rfl (dArr Dc.d0) zero43 ?_; intro w2 hR hLR hsR; rw [hsB'] at hR; have hS : ApSt w w2 n d Dc.d0 := ⟨hA1.next hLR, hB.next hLR, hR, more hL hLR⟩; have hcA := hS.a.cellD; clear hA hLA hB hLB hA1 hL hR hLR hsR) | ((with_reducible show wpList _ _ _ (⟨some 17, .load 43 _, _, _, _, _⟩ :: _) _ _); refine wpList_load_blkW rfl 43 _ rfl (w.heap.size) rfl (show ApSt w _ _ _ _ from by assumption).a Tryz.row43 Tryz.size43 ?_) | ((with_reducible show wpList _ _ _ (⟨some 21, .load 43 _, _, _, _, _⟩ :: _) _ _); refine wpList_load_blkW rfl 43 _ rfl (w.heap.size) rfl (show ApSt w _ _ _ _ from by assumption).a Tryz.row43 Tryz.size43 ?_) | ((with_reducible show wpList _ _ _ (⟨some 27, .load 43 _, _, _, _, _⟩ :: _) _ _); refine wpList_load_blkW rfl 43 _ rfl (w.heap.size) rfl (show ApSt w _ _ _ _ from by assumption).a Tryz.row43 Tryz.size43 ?_) | ((with_reducible show wpList _ _ _ (⟨some 31, .load 43 _, _, _, _, _⟩ :: _) _ _); refine wpList_load_blkW rfl 43 _ rfl (w.heap.size) rfl (show ApSt w _ _ _ _ from by assumption).a Tryz.row43 Tryz.size43 ?_) | ((with_reducible show wpList _ _ _ (⟨some 42, .load 43 _, _, _, _, _⟩ :: _) _ _); refine wpList_load_blkW rfl 43 _ rfl (w.heap.size) rfl (show ApSt w _ _ _ _ from by assumption).a Tryz.row43 Tryz.size43 ?_) | ((with_reducible show wpList _ _ _ (⟨some 46, .load 43 _, _, _, _, _⟩ :: _) _ _); refine wpList_load_blkW rfl 43 _ rfl (w.heap.size) rfl (show ApSt w _ _ _ _ from by assumption).a Tryz.row43 Tryz.size43 ?_) | ((with_reducible show wpList _ _ _ (⟨some 53, .load 43 _, _, _, _, _⟩ :: _) _ _); refine wpList_load_blkW rfl 43 _ rfl (w.heap.size) rfl (show ApSt w _ _ _ _ from by assumption).a Tryz.row43 Tryz.size43 ?_) | ((with_reducible show wpList _ _ _ (⟨some 78, .load 43 _, _, _, _, _⟩ :: _) _ _); refine wpList_load_blkW rfl 43 _ rfl (w.heap.size) rfl (show ApSt w _ _ _ _ from by assumption).a Tryz.row43 Tryz.size43 ?_) | ((with_reducible show wpList _ _ _ (⟨some 13, .load 43 _, _, _, _, _⟩ :: _) _ _); refine wpList_load_blkW rfl 43 _ rfl (w.heap.size + 1) rfl (show ApSt w _ _ _ _ from by assumption).b Tryz.row43 Tryz.size43 ?_) | ((with_reducible show wpList _ _ _ (⟨some 33, .load 43 _, _, _, _, _⟩ :: _) _ _); refine wpList_load_blkW rfl 43 _ rfl (w.heap.size + 1) rfl (show ApSt w _ _ _ _ from by assumption).b Tryz.row43 Tryz.size43 ?_) | ((with_reducible show wpList _ _ _ (⟨some 37, .load 43 _, _, _, _, _⟩ :: _) _ _); refine wpList_load_blkW rfl 43 _ rfl (w.heap.size + 1) rfl (show ApSt w _ _ _ _ from by assumption).b Tryz.row43 Tryz.size43 ?_) | ((with_reducible show wpList _ _ _ (⟨some 43, .load 43 _, _, _, _, _⟩ :: _) _ _); refine wpList_load_blkW rfl 43 _ rfl (w.heap.size + 1) rfl (show ApSt w _ _ _ _ from by assumption).b Tryz.row43 Tryz.size43 ?_) | ((with_reducible show wpList _ _ _ (⟨some 48, .load 43 _, _, _, _, _⟩ :: _) _ _); refine wpList_load_blkW rfl 43 _ rfl (w.heap.size + 1) rfl (show ApSt w _ _ _ _ from by assumption).b Tryz.row43 Tryz.size43 ?_) | ((with_reducible show wpList _ _ _ (⟨some 73, .load 43 _, _, _, _, _⟩ :: _) _ _); refine wpList_load_blkW rfl 43 _ rfl (w.heap.size + 1) rfl (show ApSt w _ _ _ _ from by assumption).b Tryz.row43 Tryz.size43 ?_) | ((with_reducible show wpList _ _ _ (⟨some 77, .load 43 _, _, _, _, _⟩ :: _) _ _); refine wpList_load_blkW rfl 43 _ rfl (w.heap.size + 1) rfl (show ApSt w _ _ _ _ from by assumption).b Tryz.row43 Tryz.size43 ?_) | ((with_reducible show wpList _ _ _ (⟨some 79, .load 43 _, _, _, _, _⟩ :: _) _ _); refine wpList_load_blkW rfl 43 _ rfl (w.heap.size + 1) rfl (show ApSt w _ _ _ _ from by assumption).b Tryz.row43 Tryz.size43 ?_) | (go_at_call 104; refine (cC _ (show ApSt w _ _ _ _ from by assumption).below).mono ?_; rintro e u ⟨rfl, hb⟩; have hS := (show ApSt w _ _ _ _ from by assumption).next hb; have hcA := hS.a.cellD) | (go_at_call 233; refine (cW _ (show ApSt w _ _ _ _ from by assumption).below).mono ?_; rintro e u ⟨rfl, hb⟩; have hS := (show ApSt w _ _ _ _ from by assumption).next hb; have hcA := hS.a.cellD) | (go_at_call 234; refine (cZ _).mono ?_; rintro e u ⟨rfl, hb⟩; have hS := (show ApSt w _ _ _ _ from by assumption).next hb; have hcA := hS.a.cellD) | (go_at_call 236; refine (cB _ (show ApSt w _ _ _ _ from by assumption).below).mono ?_; rintro e u ⟨rfl, hb⟩; have hS := (show ApSt w _ _ _ _ from by assumption).next hb; have hcA := hS.a.cellD) | (go_at_call_of 139 (dArr d); refine (kD _ (show ApSt w _ _ _ _ from by assumption).below).mono ?_; rintro e u ⟨rfl, hb⟩; have hS := (show ApSt w _ _ _ _ from by assumption).next hb; have hcA := hS.a.cellD) | (go_at_call_of 139 (dArr n); refine (kN _ (show ApSt w _ _ _ _ from by assumption).below).mono ?_; rintro e u ⟨rfl, hb⟩; have hS := (show ApSt w _ _ _ _ from by assumption).next hb; have hcA := hS.a.cellD) | (go_at_call_of 237 n.e; go_must (refine (fillT_e _ _ _ _ (show ApSt w _ _ _ _ from by assumption).b).mono ?_; rintro e u ⟨rfl, hBk, hO⟩; have hS := (show ApSt w _ _ _ _ from by assumption).setB hBk hO; have hcA := hS.a.cellD)) | (go_at_call_of 237 n.c; go_must (refine (fillT_c _ _ _ _ (show ApSt w _ _ _ _ from by assumption).b).mono ?_; rintro e u ⟨rfl, hBk, hO⟩; have hS := (show ApSt w _ _ _ _ from by assumption).setB hBk hO; have hcA := hS.a.cellD)) | (go_at_call 238; refine (cO _).mono ?_; rintro e u ⟨rfl, hb⟩; have hS := (show ApSt w _ _ _ _ from by assumption).next hb; have hcA := hS.a.cellD) | (go_at_call 235; refine (cM _ (show ApSt w _ _ _ _ from by assumption).below).mono ?_; rintro e u ⟨rfl, hb⟩; have hS := (show ApSt w _ _ _ _ from by assumption).next hb; have hcA := hS.a.cellD) | (((with_reducible show wpList _ _ _ (⟨_, .store 43 (.tmp 5) _, _, _, _, _⟩ :: _) _ _)); refine wpList_store_blk rfl 43 _ _ rfl (w.heap.size + 1) (dArr _) (dArr _) 43 rfl rfl (show ApSt w _ _ _ _ from by assumption).b Tryz.size43 (Eq.refl 18) (dCells_one _) ?_; intro u hBk hO; have hS := (show ApSt w _ _ _ _ from by assumption).setB hBk hO; have hcA := hS.a.cellD) | (((with_reducible show wpList _ _ _ (⟨_, .store 43 (.tmp 6) _, _, _, _, _⟩ :: _) _ _)); refine wpList_store_blk rfl 43 _ _ rfl (w.heap.size + 2) (dArr _) (dArr _) 43 rfl rfl (show ApSt w _ _ _ _ from by assumption).r Tryz.size43 (Eq.refl 18) (dCells_one _) ?_; intro u hBk hO; have hS := (show ApSt w _ _ _ _ from by assumption).setR hBk hO))
        exact bodyPost_ret (results_cell_tmp2 Tryz.results220 rfl (show ApSt w _ _ _ _ from by assumption).r Tryz.row43 Tryz.size43) rfl ⟨rfl, (show ApSt w _ _ _ _ from by assumption).below⟩
      · first
          | (rw [if_pos ⟨h2, h3⟩] at hr)
          | skip
        have b2 : (KD != 0) = true := by simp [h2]
        have b3 : (KD != KN) = true := by simp [h3]
        rw [hr]
        have H2 := Lib.hid (And.intro h2 h3)
        clear hr h2 h3
        go_enter Tryz.func220, Tryz.ntmps220
        go_wp2_with (first | ((with_reducible show wpList _ _ _ (⟨some 4, .box 43 _, _, _, _, _⟩ :: _) _ _); refine wpList_box_blk rfl 43 _ rfl (dArr n) rfl ?_; intro w0 hA hLA hsA) | ((with_reducible show wpList _ _ _ (⟨some 5, .box 43 _, _, _, _, _⟩ :: _) _ _); refine wpList_box_blk rfl 43 _ rfl (dArr d) rfl ?_; intro w1 hB hLB hsB; have hA1 := hA.next hLB; have hL := more hLA hLB; rw [hsA] at hB; have hsB' : w1.heap.size = w.heap.size + 2 := (by omega); clear hsB) | ((with_reducible show wpList _ _ _ (⟨some 6, .alloc 43, _, _, _, _⟩ :: _) _ _); refine wpList_alloc_blk rfl 43 rfl (dArr Dc.d0) zero43 ?_; intro w2 hR hLR hsR; rw [hsB'] at hR; have hS : ApSt w w2 n d Dc.d0 := ⟨hA1.next hLR, hB.next hLR, hR, more hL hLR⟩; have hcA := hS.a.cellD; clear hA hLA hB hLB hA1 hL hR hLR hsR) | ((with_reducible show wpList _ _ _ (⟨some 17, .load 43 _, _, _, _, _⟩ :: _) _ _); refine wpList_load_blkW rfl 43 _ rfl (w.heap.size) rfl (show ApSt w _ _ _ _ from by assumption).a Tryz.row43 Tryz.size43 ?_) | ((with_reducible show wpList _ _ _ (⟨some 21, .load 43 _, _, _, _, _⟩ :: _) _ _); refine wpList_load_blkW rfl 43 _ rfl (w.heap.size) rfl (show ApSt w _ _ _ _ from by assumption).a Tryz.row43 Tryz.size43 ?_) | ((with_reducible show wpList _ _ _ (⟨some 27, .load 43 _, _, _, _, _⟩ :: _) _ _); refine wpList_load_blkW rfl 43 _ rfl (w.heap.size) rfl (show ApSt w _ _ _ _ from by assumption).a Tryz.row43 Tryz.size43 ?_) | ((with_reducible show wpList _ _ _ (⟨some 31, .load 43 _, _, _, _, _⟩ :: _) _ _); refine wpList_load_blkW rfl 43 _ rfl (w.heap.size) rfl (show ApSt w _ _ _ _ from by assumption).a Tryz.row43 Tryz.size43 ?_) | ((with_reducible show wpList _ _ _ (⟨some 42, .load 43 _, _, _, _, _⟩ :: _) _ _); refine wpList_load_blkW rfl 43 _ rfl (w.heap.size) rfl (show ApSt w _ _ _ _ from by assumption).a Tryz.row43 Tryz.size43 ?_) | ((with_reducible show wpList _ _ _ (⟨some 46, .load 43 _, _, _, _, _⟩ :: _) _ _); refine wpList_load_blkW rfl 43 _ rfl (w.heap.size) rfl (show ApSt w _ _ _ _ from by assumption).a Tryz.row43 Tryz.size43 ?_) | ((with_reducible show wpList _ _ _ (⟨some 53, .load 43 _, _, _, _, _⟩ :: _) _ _); refine wpList_load_blkW rfl 43 _ rfl (w.heap.size) rfl (show ApSt w _ _ _ _ from by assumption).a Tryz.row43 Tryz.size43 ?_) | ((with_reducible show wpList _ _ _ (⟨some 78, .load 43 _, _, _, _, _⟩ :: _) _ _); refine wpList_load_blkW rfl 43 _ rfl (w.heap.size) rfl (show ApSt w _ _ _ _ from by assumption).a Tryz.row43 Tryz.size43 ?_) | ((with_reducible show wpList _ _ _ (⟨some 13, .load 43 _, _, _, _, _⟩ :: _) _ _); refine wpList_load_blkW rfl 43 _ rfl (w.heap.size + 1) rfl (show ApSt w _ _ _ _ from by assumption).b Tryz.row43 Tryz.size43 ?_) | ((with_reducible show wpList _ _ _ (⟨some 33, .load 43 _, _, _, _, _⟩ :: _) _ _); refine wpList_load_blkW rfl 43 _ rfl (w.heap.size + 1) rfl (show ApSt w _ _ _ _ from by assumption).b Tryz.row43 Tryz.size43 ?_) | ((with_reducible show wpList _ _ _ (⟨some 37, .load 43 _, _, _, _, _⟩ :: _) _ _); refine wpList_load_blkW rfl 43 _ rfl (w.heap.size + 1) rfl (show ApSt w _ _ _ _ from by assumption).b Tryz.row43 Tryz.size43 ?_) | ((with_reducible show wpList _ _ _ (⟨some 43, .load 43 _, _, _, _, _⟩ :: _) _ _); refine wpList_load_blkW rfl 43 _ rfl (w.heap.size + 1) rfl (show ApSt w _ _ _ _ from by assumption).b Tryz.row43 Tryz.size43 ?_) | ((with_reducible show wpList _ _ _ (⟨some 48, .load 43 _, _, _, _, _⟩ :: _) _ _); refine wpList_load_blkW rfl 43 _ rfl (w.heap.size + 1) rfl (show ApSt w _ _ _ _ from by assumption).b Tryz.row43 Tryz.size43 ?_) | ((with_reducible show wpList _ _ _ (⟨some 73, .load 43 _, _, _, _, _⟩ :: _) _ _); refine wpList_load_blkW rfl 43 _ rfl (w.heap.size + 1) rfl (show ApSt w _ _ _ _ from by assumption).b Tryz.row43 Tryz.size43 ?_) | ((with_reducible show wpList _ _ _ (⟨some 77, .load 43 _, _, _, _, _⟩ :: _) _ _); refine wpList_load_blkW rfl 43 _ rfl (w.heap.size + 1) rfl (show ApSt w _ _ _ _ from by assumption).b Tryz.row43 Tryz.size43 ?_) | ((with_reducible show wpList _ _ _ (⟨some 79, .load 43 _, _, _, _, _⟩ :: _) _ _); refine wpList_load_blkW rfl 43 _ rfl (w.heap.size + 1) rfl (show ApSt w _ _ _ _ from by assumption).b Tryz.row43 Tryz.size43 ?_) | (go_at_call 104; refine (cC _ (show ApSt w _ _ _ _ from by assumption).below).mono ?_; rintro e u ⟨rfl, hb⟩; have hS := (show ApSt w _ _ _ _ from by assumption).next hb; have hcA := hS.a.cellD) | (go_at_call 233; refine (cW _ (show ApSt w _ _ _ _ from by assumption).below).mono ?_; rintro e u ⟨rfl, hb⟩; have hS := (show ApSt w _ _ _ _ from by assumption).next hb; have hcA := hS.a.cellD) | (go_at_call 234; refine (cZ _).mono ?_; rintro e u ⟨rfl, hb⟩; have hS := (show ApSt w _ _ _ _ from by assumption).next hb; have hcA := hS.a.cellD) | (go_at_call 236; refine (cB _ (show ApSt w _ _ _ _ from by assumption).below).mono ?_; rintro e u ⟨rfl, hb⟩; have hS := (show ApSt w _ _ _ _ from by assumption).next hb; have hcA := hS.a.cellD) | (go_at_call_of 139 (dArr d); refine (kD _ (show ApSt w _ _ _ _ from by assumption).below).mono ?_; rintro e u ⟨rfl, hb⟩; have hS := (show ApSt w _ _ _ _ from by assumption).next hb; have hcA := hS.a.cellD) | (go_at_call_of 139 (dArr n); refine (kN _ (show ApSt w _ _ _ _ from by assumption).below).mono ?_; rintro e u ⟨rfl, hb⟩; have hS := (show ApSt w _ _ _ _ from by assumption).next hb; have hcA := hS.a.cellD) | (go_at_call_of 237 n.e; go_must (refine (fillT_e _ _ _ _ (show ApSt w _ _ _ _ from by assumption).b).mono ?_; rintro e u ⟨rfl, hBk, hO⟩; have hS := (show ApSt w _ _ _ _ from by assumption).setB hBk hO; have hcA := hS.a.cellD)) | (go_at_call_of 237 n.c; go_must (refine (fillT_c _ _ _ _ (show ApSt w _ _ _ _ from by assumption).b).mono ?_; rintro e u ⟨rfl, hBk, hO⟩; have hS := (show ApSt w _ _ _ _ from by assumption).setB hBk hO; have hcA := hS.a.cellD)) | (go_at_call 238; refine (cO _).mono ?_; rintro e u ⟨rfl, hb⟩; have hS := (show ApSt w _ _ _ _ from by assumption).next hb; have hcA := hS.a.cellD) | (go_at_call 235; refine (cM _ (show ApSt w _ _ _ _ from by assumption).below).mono ?_; rintro e u ⟨rfl, hb⟩; have hS := (show ApSt w _ _ _ _ from by assumption).next hb; have hcA := hS.a.cellD) | (((with_reducible show wpList _ _ _ (⟨_, .store 43 (.tmp 5) _, _, _, _, _⟩ :: _) _ _)); refine wpList_store_blk rfl 43 _ _ rfl (w.heap.size + 1) (dArr _) (dArr _) 43 rfl rfl (show ApSt w _ _ _ _ from by assumption).b Tryz.size43 (Eq.refl 18) (dCells_one _) ?_; intro u hBk hO; have hS := (show ApSt w _ _ _ _ from by assumption).setB hBk hO; have hcA := hS.a.cellD) | (((with_reducible show wpList _ _ _ (⟨_, .store 43 (.tmp 6) _, _, _, _, _⟩ :: _) _ _)); refine wpList_store_blk rfl 43 _ _ rfl (w.heap.size + 2) (dArr _) (dArr _) 43 rfl rfl (show ApSt w _ _ _ _ from by assumption).r Tryz.size43 (Eq.refl 18) (dCells_one _) ?_; intro u hBk hO; have hS := (show ApSt w _ _ _ _ from by assumption).setR hBk hO))
        exact bodyPost_ret (results_cell_tmp2 Tryz.results220 rfl (show ApSt w _ _ _ _ from by assumption).r Tryz.row43 Tryz.size43) rfl ⟨rfl, (show ApSt w _ _ _ _ from by assumption).below⟩

end Go.Proofs.YtoalboilghgalaaGreatDoor

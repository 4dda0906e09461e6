/- Lemmas for this claim, in parts: Unit. -/
import Derived.Test.YtoalboilghgalaaGreatDoorC19
import Derived.Test.YtoalboilghgalaaGreatDoorC20
import Derived.Test.YtoalboilghgalaaGreatDoorC22
import Derived.Test.YtoalboilghgalaaGreatDoorC23
set_option maxRecDepth 100000
set_option maxHeartbeats 4000000
set_option linter.unusedVariables false
set_option linter.unusedSimpArgs false
/- A String object; key.Integer; the property of a code unit. -/
namespace Go.Proofs.YtoalboilghgalaaGreatDoor
open Go.RowKit
open Go.Proofs.Dc (V Ds Ky)
attribute [local go_sem] run_store_float

/-- a String object's kind -/
def kS (dp b : Int) (xb : Nat) : Kd := ⟨5, vN, .iface 103 (.pointer (some ⟨xb, 0, none⟩)), .iface 103 (.pointer (some ⟨xb, 0, none⟩)), dp, b⟩
/-- its own block: a string and its code units -/
structure SAt (W : World) (xb : Nat) (s : ByteArray) (g cap : Nat) (A : Option Addr) (U : List Int) : Prop where
  blk : Blk W xb #[.string s, .slice A U.length cap] 107
  row : (A = none ∧ U = []) ∨ (A = some ⟨g, 0, none⟩ ∧ ∃ cur, Blk W g cur 121 ∧ UAt W g 0 U)
  units : ∀ x ∈ U, IsU x
  len : U.length ≤ 2000000
  le : U.length ≤ cap
theorem SAt.below {W W' : World} {xb : Nat} {s : ByteArray} {g cap : Nat} {A : Option Addr} {U : List Int} (h : SAt W xb s g cap A U) (hb : Below W.heap.size W W') : SAt W' xb s g cap A U := by
  refine ⟨h.blk.next hb, ?_, h.units, h.len, h.le⟩
  rcases h.row with h1 | ⟨h1, cur, h2, h3⟩
  · exact .inl h1
  · exact .inr ⟨h1, cur, h2.next hb, h3.below hb h2.lt⟩
theorem SAt.keeps {n0 : Nat} {W W' : World} {xb : Nat} {s : ByteArray} {g cap : Nat} {A : Option Addr} {U : List Int} (h : SAt W xb s g cap A U) (k : Keeps n0 W W') : SAt W' xb s g cap A U := by
  refine ⟨h.blk.keeps k rfl, ?_, h.units, h.len, h.le⟩
  rcases h.row with h1 | ⟨h1, cur, h2, h3⟩
  · exact .inl h1
  · refine .inr ⟨h1, cur, h2.keeps k rfl, fun j hj => ?_⟩
    rw [(h2.keeps k rfl).cell, ← h2.cell]; exact h3 j hj
theorem SAt.drew {W : World} {xb : Nat} {s : ByteArray} {g cap : Nat} {A : Option Addr} {U : List Int} (h : SAt W xb s g cap A U) : SAt W.drew xb s g cap A U := h.below (Below.refl _ _).drew
/-- which code unit a key names -/
def unitI (n : Nat) (k : Ky) : Option Nat := if k.sym = 0 then (match dig k.str 9007199254740991 with | some i => if i < n then some i else none | none => none) else none
/-- a code unit's property -/
def unitQ (q : ByteArray) : Ds := { Dc.d0 with val := ⟨5, false, 0, q, 0⟩, w := 1, e := 2, c := 1 }
def unitP (x : Int) : Ds := unitQ (ofU [x])
def unitD (U : List Int) (k : Ky) : Option Ds := match unitI U.length k with | some i => (U[i]?).map unitP | none => none
theorem dig_le {s : ByteArray} {m n : Nat} (h : dig s m = some n) : n ≤ m := by
  unfold dig at h
  split at h
  · cases h
  · split at h
    · cases h
    · split at h
      · cases h
      · split at h
        · split at h
          · cases h
          · cases h; omega
        · cases h
theorem unit_good {x : Int} (h : IsU x) : Dc.good uvalid ⟨5, false, 0, ofU [x], 0⟩ = true := by
  have h1 := (ofU_ok (U := [x]) (by simpa using h)).1
  have h2 := ofU_size [x]
  simp only [List.length_cons, List.length_nil] at h2
  simp [Dc.good, Dc.vin, Dc.plain, h1, Dc.isE]
  omega

set_option maxRecDepth 100000 in
set_option maxHeartbeats 1000000 in
theorem kint_any (s : ByteArray) (w : World) : Calls Tryz.prog 232 #[.string s] w fun e w' => e = .returned (.tuple #[.int .i64 ((dig s 9007199254740991).getD 0 : Nat), .bool (dig s 9007199254740991).isSome]) ∧ Below w.heap.size w w' := by
  have c := dig_any s 9007199254740991 w (by decide)
  have hd : (dig s 9007199254740991).getD 0 ≤ 9007199254740991 := by
    cases h : dig s 9007199254740991 with
    | none => exact Nat.zero_le _
    | some n => exact dig_le h
  generalize dig s 9007199254740991 = D at c hd ⊢
  obtain ⟨n, hn⟩ : ∃ n, n = D.getD 0 := ⟨_, rfl⟩
  obtain ⟨b, hb⟩ : ∃ b, b = D.isSome := ⟨_, rfl⟩
  rw [← hn] at hd
  rw [← hn, ← hb] at c ⊢
  clear hn hb
  have hwr : IntKind.i64.wrap (n : Int) = (n : Int) := by unfold IntKind.wrap; simp [IntKind.signed, IntKind.bits]; omega
  go_enter Tryz.func232, Tryz.ntmps232
  go_wp2_with (go_at_call 246; refine c.mono ?_; rintro e w1 ⟨rfl, hb⟩)
  go_ret2
  exact ⟨rfl, hb⟩

set_option maxRecDepth 100000 in
set_option maxHeartbeats 1000000 in
theorem unit_none {w : World} {xb g cap : Nat} {s : ByteArray} {A : Option Addr} {U : List Int} (hT : Tabs w) (hS : SAt w xb s g cap A U) (k : Ky) (hI : unitI U.length k = none) : Calls Tryz.prog 218 #[.pointer (some ⟨xb, 0, none⟩), .agg (kArr k)] w fun e w' => e = .returned (.tuple #[.agg (dArr Dc.d0), .bool false]) ∧ Below w.heap.size w w' := by
  unfold unitI at hI
  have hn := hS.len
  obtain ⟨D, hD⟩ : ∃ D, dig k.str 9007199254740991 = D := ⟨_, rfl⟩
  have cK := fun W => kint_any k.str W
  rw [hD] at hI
  simp only [hD] at cK
  cases D with
  | none =>
    clear hI
    simp only [Option.getD_none, Option.isSome_none] at cK
    go_enter Tryz.func218, Tryz.ntmps218
    go_wp2_with (first | ((with_reducible show wpList _ _ _ (⟨_, .box 40 _, _, _, _, _⟩ :: _) _ _); refine wpList_box_blk rfl 40 _ rfl (kArr k) rfl ?_; intro w0 hK hL hs0) | ((with_reducible show wpList _ _ _ (⟨_, .alloc 43, _, _, _, _⟩ :: _) _ _); refine wpList_alloc_blk rfl 43 rfl (dArr Dc.d0) zero43 ?_; intro w1 hR hL1 hs1; clear hs1; rw [hs0] at hR; have hLL := more hL hL1; have hK1 := hK.next hL1; have hcK1 := hK1.cellK; have hS1 := hS.below hLL) | (go_at_call 232; refine (cK _).mono ?_; rintro e w2 ⟨rfl, hb2⟩; have hK2 := hK1.next hb2; have hcK2 := hK2.cellK; have hS2 := hS1.below hb2; have hR2 := hR.next hb2; have hL2 := more hLL hb2; have hx2 := hS2.blk.cell 1) | ((with_reducible show wpList _ _ _ (⟨_, .store 43 _ _, _, _, _, _⟩ :: _) _ _); refine wpList_store_blk rfl 43 _ _ rfl _ (dArr Dc.d0) _ 43 rfl rfl hR2 Tryz.size43 (Eq.refl 18) (dCells_one _) ?_; intro wC hBC hOC))
    exact bodyPost_ret (results_cell_tmp Tryz.results218 rfl hBC Tryz.row43 Tryz.size43) rfl ⟨rfl, below_only hL2 hOC (by simp)⟩
  | some i =>
    have hi : i ≤ 9007199254740991 := dig_le hD
    simp only [Option.getD_some, Option.isSome_some] at cK
    by_cases hs : k.sym = 0
    · rw [if_pos hs] at hI
      simp only at hI
      have hge : (U.length : Int) ≤ (i : Int) := by
        by_cases h : i < U.length
        · rw [if_pos h] at hI; cases hI
        · omega
      have hs' : ¬ k.sym ≠ 0 := by simpa using hs
      clear hI
      go_enter Tryz.func218, Tryz.ntmps218
      go_wp2_with (first | ((with_reducible show wpList _ _ _ (⟨_, .box 40 _, _, _, _, _⟩ :: _) _ _); refine wpList_box_blk rfl 40 _ rfl (kArr k) rfl ?_; intro w0 hK hL hs0) | ((with_reducible show wpList _ _ _ (⟨_, .alloc 43, _, _, _, _⟩ :: _) _ _); refine wpList_alloc_blk rfl 43 rfl (dArr Dc.d0) zero43 ?_; intro w1 hR hL1 hs1; clear hs1; rw [hs0] at hR; have hLL := more hL hL1; have hK1 := hK.next hL1; have hcK1 := hK1.cellK; have hS1 := hS.below hLL) | (go_at_call 232; refine (cK _).mono ?_; rintro e w2 ⟨rfl, hb2⟩; have hK2 := hK1.next hb2; have hcK2 := hK2.cellK; have hS2 := hS1.below hb2; have hR2 := hR.next hb2; have hL2 := more hLL hb2; have hx2 := hS2.blk.cell 1) | ((with_reducible show wpList _ _ _ (⟨_, .store 43 _ _, _, _, _, _⟩ :: _) _ _); refine wpList_store_blk rfl 43 _ _ rfl _ (dArr Dc.d0) _ 43 rfl rfl hR2 Tryz.size43 (Eq.refl 18) (dCells_one _) ?_; intro wC hBC hOC))
      exact bodyPost_ret (results_cell_tmp Tryz.results218 rfl hBC Tryz.row43 Tryz.size43) rfl ⟨rfl, below_only hL2 hOC (by simp)⟩
    · clear hI
      go_enter Tryz.func218, Tryz.ntmps218
      go_wp2_with (first | ((with_reducible show wpList _ _ _ (⟨_, .box 40 _, _, _, _, _⟩ :: _) _ _); refine wpList_box_blk rfl 40 _ rfl (kArr k) rfl ?_; intro w0 hK hL hs0) | ((with_reducible show wpList _ _ _ (⟨_, .alloc 43, _, _, _, _⟩ :: _) _ _); refine wpList_alloc_blk rfl 43 rfl (dArr Dc.d0) zero43 ?_; intro w1 hR hL1 hs1; clear hs1; rw [hs0] at hR; have hLL := more hL hL1; have hK1 := hK.next hL1; have hcK1 := hK1.cellK; have hS1 := hS.below hLL) | (go_at_call 232; refine (cK _).mono ?_; rintro e w2 ⟨rfl, hb2⟩; have hK2 := hK1.next hb2; have hcK2 := hK2.cellK; have hS2 := hS1.below hb2; have hR2 := hR.next hb2; have hL2 := more hLL hb2; have hx2 := hS2.blk.cell 1) | ((with_reducible show wpList _ _ _ (⟨_, .store 43 _ _, _, _, _, _⟩ :: _) _ _); refine wpList_store_blk rfl 43 _ _ rfl _ (dArr Dc.d0) _ 43 rfl rfl hR2 Tryz.size43 (Eq.refl 18) (dCells_one _) ?_; intro wC hBC hOC))
      exact bodyPost_ret (results_cell_tmp Tryz.results218 rfl hBC Tryz.row43 Tryz.size43) rfl ⟨rfl, below_only hL2 hOC (by simp)⟩

set_option maxRecDepth 100000 in
set_option maxHeartbeats 1000000 in
theorem unit_some {w : World} {xb g cap : Nat} {s : ByteArray} {A : Option Addr} {U : List Int} (hT : Tabs w) (hS : SAt w xb s g cap A U) (k : Ky) (i : Nat) (hI : unitI U.length k = some i) (hi : i < U.length) : Calls Tryz.prog 218 #[.pointer (some ⟨xb, 0, none⟩), .agg (kArr k)] w fun e w' => e = .returned (.tuple #[.agg (dArr (unitP U[i])), .bool true]) ∧ Below w.heap.size w w' := by
  unfold unitI at hI
  have hn := hS.len
  have hle := hS.le
  have hs : k.sym = 0 := by
    by_cases h : k.sym = 0
    · exact h
    · rw [if_neg h] at hI; cases hI
  rw [if_pos hs] at hI
  have hD : dig k.str 9007199254740991 = some i := by
    cases h : dig k.str 9007199254740991 with
    | none => rw [h] at hI; cases hI
    | some j =>
      rw [h] at hI
      simp only at hI
      split at hI
      · cases hI; rfl
      · cases hI
  have hi9 : i ≤ 9007199254740991 := dig_le hD
  have cK := fun W => kint_any k.str W
  simp only [hD, Option.getD_some, Option.isSome_some] at cK
  obtain ⟨x, hx⟩ : ∃ x, x = U[i] := ⟨_, rfl⟩
  have hxu : IsU x := by rw [hx]; exact hS.units _ (List.getElem_mem hi)
  have hrow := hS.row
  rcases hrow with ⟨_, rfl⟩ | ⟨rfl, cur, hC, hU⟩
  · simp at hi
  have hux := hU i hi
  rw [← hx, Nat.zero_add] at hux
  have hgl := hC.lt
  have cOf : ∀ W, Below w.heap.size w W → Calls Tryz.prog 25 #[.slice (some ⟨g, i, none⟩) 1 (cap - i)] W fun e w' => e = .returned (.string (ofU [x])) ∧ Below W.heap.size W w' := fun W hb =>
    uof_any g i 1 (cap - i) [x] rfl W (fun j hj => by
      obtain rfl : j = 0 := by simpa using hj
      rw [Nat.add_zero, hb.cell (p := ⟨g, i, none⟩) hgl]
      exact hux) (.inr (Nat.lt_of_lt_of_le hgl hb.size)) (by simpa using hxu) (by decide)
  have hgd := unit_good hxu
  rw [← hx]
  unfold unitP
  obtain ⟨q, hq⟩ : ∃ q, q = ofU [x] := ⟨_, rfl⟩
  rw [← hq] at hgd ⊢
  simp only [← hq] at cOf
  have c24 : ∀ W, Below w.heap.size w W → Calls Tryz.prog 24 #[.string q] W fun e w' => e = .returned (.agg #[.int .i64 5, .bool false, .float .f64 0, .string q, .int .i64 0]) ∧ Below W.heap.size W w' := fun W hb => str24 q hgd W (hT.below hb)
  have hlt : ¬ (U.length : Int) ≤ (i : Int) := by omega
  have hi1 : (i : Int) + 1 ≤ (cap : Int) := by omega
  have hcc : ¬ cap - i = 0 := by omega
  clear hI hD hx hU hC hux hgl hgd hq hxu
  go_enter Tryz.func218, Tryz.ntmps218
  go_wp2_with (first | ((with_reducible show wpList _ _ _ (⟨_, .box 40 _, _, _, _, _⟩ :: _) _ _); refine wpList_box_blk rfl 40 _ rfl (kArr k) rfl ?_; intro w0 hK hL hs0) | ((with_reducible show wpList _ _ _ (⟨_, .alloc 43, _, _, _, _⟩ :: _) _ _); refine wpList_alloc_blk rfl 43 rfl (dArr Dc.d0) zero43 ?_; intro w1 hR hL1 hs1; clear hs1; rw [hs0] at hR; have hLL := more hL hL1; have hK1 := hK.next hL1; have hcK1 := hK1.cellK; have hS1 := hS.below hLL) | (go_at_call 232; refine (cK _).mono ?_; rintro e w2 ⟨rfl, hb2⟩; have hK2 := hK1.next hb2; have hcK2 := hK2.cellK; have hS2 := hS1.below hb2; have hR2 := hR.next hb2; have hL2 := more hLL hb2; have hx2 := hS2.blk.cell 1) | (go_at_call 25; refine (cOf _ hL2).mono ?_; rintro e w3 ⟨rfl, hb3⟩; have hR3 := hR2.next hb3; have hL3 := more hL2 hb3; have hT3 := hT.below hL3) | (go_at_call 24; refine (c24 _ hL3).mono ?_; rintro e w4 ⟨rfl, hb4⟩; have hR4 := hR3.next hb4; have hL4 := more hL3 hb4) | ((with_reducible show wpList _ _ _ (⟨_, .store 43 _ _, _, _, _, _⟩ :: _) _ _); refine wpList_store_blk rfl 43 _ _ rfl _ (dArr (unitQ q)) _ 43 rfl rfl hR4 Tryz.size43 (Eq.refl 18) (dCells_one _) ?_; intro wC hBC hOC))
  exact bodyPost_ret (results_cell_tmp Tryz.results218 rfl hBC Tryz.row43 Tryz.size43) rfl ⟨rfl, below_only hL4 hOC (by simp)⟩


end Go.Proofs.YtoalboilghgalaaGreatDoor

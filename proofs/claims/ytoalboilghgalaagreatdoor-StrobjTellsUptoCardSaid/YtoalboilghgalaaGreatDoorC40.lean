/- Lemmas for this claim, in parts: Dec. -/
import Derived.Test.YtoalboilghgalaaGreatDoorC21
import Derived.Test.YtoalboilghgalaaGreatDoorC09
import Derived.Lib.DecodeNEq
import Derived.WalkLawsBesides
import Derived.WalkSpells
import Derived.Deep.DeepCutAuto
set_option maxRecDepth 100000
set_option maxHeartbeats 4000000
set_option linter.unusedVariables false
set_option linter.unusedSimpArgs false
/- utf8.DecodeRuneInString once more, with the count of draws. -/
namespace Go.Proofs.YtoalboilghgalaaGreatDoor
open Go.RowKit
open Go.Proofs.Dc (V Ds Ky)
attribute [local go_sem] run_store_float

attribute [local go_sem] Oper.semAt_some
/-- nothing that was there has turned, and the tape is not asked backwards -/
structure Grw (w w' : World) : Prop where
  below : Below w.heap.size w w'
  dr : w.drawn ≤ w'.drawn
theorem Grw.refl (w : World) : Grw w w := ⟨Below.refl _ _, Nat.le_refl _⟩
theorem Grw.trans {a b c : World} (h : Grw a b) (k : Grw b c) : Grw a c := ⟨more h.below k.below, Nat.le_trans h.dr k.dr⟩
theorem Grw.drew {a b : World} (h : Grw a b) : Grw a b.drew := ⟨h.below.drew, Nat.le_trans h.dr (Nat.le_succ _)⟩
theorem Grw.alloc (w : World) (o : Obj) : Grw w (w.alloc o) := ⟨one w o, Nat.le_refl _⟩
theorem grw_set {w W : World} {b : Nat} {C D : Array Value} {t : TypeId} (h : Grw w W) (hB : Blk W b C t) (hb : w.heap.size ≤ b) : Grw w (W.setRow b D) :=
  ⟨h.below.trans ((only_setRow hB).2.below _ h.below.size (by simp; omega)), h.dr⟩
section
variable {P : Program} {ops : Array Oper} {rest : List Oper} {o : Oper} {a : Act} {W : World} {Q : Exit → Act → World → Prop}
theorem wpList_alloc_g (hgd : o.guard = none) (ty : TypeId) (ho : o.op = .alloc ty) (Z : Array Value)
    (hz : ∀ w, (zeroValue ty).run P w = .ok (.agg Z) w) (h : ∀ W', Blk W' W.heap.size Z ty → Grw W W' → wpList P ops Q rest (a.put o.dst (.pointer (some ⟨W.heap.size, 0, none⟩))) W') : wpList P ops Q (o :: rest) a W :=
  wpList_plain hgd fun _ hK => by
    unfold Oper.wp execOp
    simp [ho, Instr.alloc, hz, newVar, Value.cells, go_sem]
    exact hK _ _ (h _ (Blk.new _ _ _) (Grw.alloc _ _))
theorem wpList_box_g (hgd : o.guard = none) (ty : TypeId) (x : Operand) (ho : o.op = .box ty x)
    (C : Array Value) (hx : a.eval x = .agg C) (h : ∀ W', Blk W' W.heap.size C ty → Grw W W' → wpList P ops Q rest (a.put o.dst (.pointer (some ⟨W.heap.size, 0, none⟩))) W') : wpList P ops Q (o :: rest) a W :=
  wpList_plain hgd fun _ hK => by
    unfold Oper.wp execOp
    simp only [ho, hx, Sem.run_bind, run_box_agg, Result.andThen_ok, Sem.run_pure]
    exact hK _ _ (h _ (Blk.new _ _ _) (Grw.alloc _ _))
theorem wpList_store_g {w : World} (hgd : o.guard = none) (ty : TypeId) (x y : Operand) (ho : o.op = .store ty x y)
    (b : Nat) (C old : Array Value) (t : TypeId) (hx : a.eval x = .pointer (some ⟨b, 0, none⟩)) (hy : a.eval y = .agg C) (hb : Blk W b old t) (hi : (P.info? ty).map (·.size) = some C.size) (hold : old.size = C.size)
    (h1 : C.all (·.oneCell') = true) (hg : Grw w W) (hwb : w.heap.size ≤ b) (h : ∀ W', Blk W' b C t → Only [b] W W' → Grw w W' → wpList P ops Q rest (a.put o.dst undef) W') : wpList P ops Q (o :: rest) a W :=
  wpList_plain hgd fun _ hK => wp_store_row ty x y ho b C hx hy t old hb hi hold h1 (hK _ _ (h _ (only_setRow hb).1 (only_setRow hb).2 (grw_set hg hb hwb)))
end
def rgArr (lo hi : Nat) : Array Value := #[.int .u8 lo, .int .u8 hi]
theorem zero267 (w : World) : (zeroValue 267).run Tryz.prog w = .ok (.agg (rgArr 0 0)) w := by kernel_rfl
theorem Tryz.size267 : (Tryz.prog.info? 267).map (·.size) = some 2 := by kernel_rfl
theorem slow_2 (s : ByteArray) (w : World) (hT : Tabs w) (hn : 1 ≤ s.size) (hn2 : s.size ≤ 4611686018427387904) (x0 : Nat) (hx0 : (s.get! 0).toNat = x0) (hf : Lib.firstT x0 = 2) (R K : Nat) (hD : Lib.slowN s.size x0 (s.get! 1).toNat (s.get! 2).toNat (s.get! 3).toNat 2 128 191 = (R, K)) :
    Calls Tryz.prog 164 #[.string s] w fun e w' => e = .returned (.tuple #[.int .i32 R, .int .i64 K]) ∧ Grw w w' := by
  have hb0 : x0 < 256 := by rw [← hx0]; exact (s.get! 0).toNat_lt
  have ht : w.cell? ⟨2, x0, none⟩ = some (.int .u8 2) := by have := hT.1 x0 hb0; rw [hf] at this; exact this
  have hs0 : (s[0]'(by omega)).toNat = x0 := by rw [← hx0, Utf8W.get!_of_lt s 0 (by omega)]
  have HD := Lib.hid hD
  clear hD hx0 hf
  have z1 : (1 : Int) ≤ (s.size : Int) := by omega
  by_cases n1 : s.size < 2
  · have z2 : (s.size : Int) < 2 := by omega
    go_enter Tryz.func164, Tryz.ntmps164
    go_wp2_with (first | ((with_reducible show wpList _ _ _ (⟨_, .alloc 267, _, _, _, _⟩ :: _) _ _); refine wpList_alloc_g rfl 267 rfl (rgArr 0 0) zero267 ?_; intro w1 hB hG1) | ((with_reducible show wpList _ _ _ (⟨_, .load 267 _, _, _, _, _⟩ :: _) _ _); refine wpList_load_mid rfl 267 _ rfl 3 0 rfl [.int .u8 128, .int .u8 191] _ (fun j v hv => by have hj : j < 2 := (List.getElem?_eq_some_iff.1 hv).1; match j, hj with | 0, _ => exact (hT.2 0 (by decide)).1.trans hv | 1, _ => exact (hT.2 0 (by decide)).2.trans hv) Tryz.underlying267 rfl Tryz.size267 ?_) | ((with_reducible show wpList _ _ _ (⟨_, .store 267 _ _, _, _, _, _⟩ :: _) _ _); refine wpList_store_g rfl 267 _ _ rfl _ (rgArr 128 191) _ 267 rfl rfl hB Tryz.size267 rfl (by simp [rgArr, Value.oneCell']) hG1 (Nat.le_refl _) ?_; intro w2 hB2 hO2 hG2; have hc2 : ∀ j, w2.cell? ⟨w.heap.size, j, none⟩ = #[Value.int .u8 128, .int .u8 191][j]? := hB2.cell))
    all_goals go_ret2
    all_goals
      have h := HD.out
      unfold Lib.slowN at h
      (repeat' split at h) <;> first | (exfalso; omega) | (obtain ⟨rfl, rfl⟩ := Prod.mk.inj h; exact ⟨rfl, Grw.trans (Grw.refl _) hG2⟩)
  · have z2 : ¬ (s.size : Int) < 2 := by omega
    have hs1 : s[1]'(by omega) = s.get! 1 := (Utf8W.get!_of_lt s 1 (by omega)).symm
    obtain ⟨x1, hx1⟩ : ∃ x1, s.get! 1 = x1 := ⟨_, rfl⟩
    rw [hx1] at hs1 HD
    have hb1 := x1.toNat_lt
    clear hx1
    go_enter Tryz.func164, Tryz.ntmps164
    go_wp2_with (first | ((with_reducible show wpList _ _ _ (⟨_, .alloc 267, _, _, _, _⟩ :: _) _ _); refine wpList_alloc_g rfl 267 rfl (rgArr 0 0) zero267 ?_; intro w1 hB hG1) | ((with_reducible show wpList _ _ _ (⟨_, .load 267 _, _, _, _, _⟩ :: _) _ _); refine wpList_load_mid rfl 267 _ rfl 3 0 rfl [.int .u8 128, .int .u8 191] _ (fun j v hv => by have hj : j < 2 := (List.getElem?_eq_some_iff.1 hv).1; match j, hj with | 0, _ => exact (hT.2 0 (by decide)).1.trans hv | 1, _ => exact (hT.2 0 (by decide)).2.trans hv) Tryz.underlying267 rfl Tryz.size267 ?_) | ((with_reducible show wpList _ _ _ (⟨_, .store 267 _ _, _, _, _, _⟩ :: _) _ _); refine wpList_store_g rfl 267 _ _ rfl _ (rgArr 128 191) _ 267 rfl rfl hB Tryz.size267 rfl (by simp [rgArr, Value.oneCell']) hG1 (Nat.le_refl _) ?_; intro w2 hB2 hO2 hG2; have hc2 : ∀ j, w2.cell? ⟨w.heap.size, j, none⟩ = #[Value.int .u8 128, .int .u8 191][j]? := hB2.cell))
    all_goals go_ret2
    all_goals
      have h := HD.out
      unfold Lib.slowN at h
      (repeat' split at h) <;> first | (exfalso; omega) | (obtain ⟨rfl, rfl⟩ := Prod.mk.inj h; exact ⟨ret2_eq (by omega) (by omega), hG2⟩)
theorem slow_19 (s : ByteArray) (w : World) (hT : Tabs w) (hn : 1 ≤ s.size) (hn2 : s.size ≤ 4611686018427387904) (x0 : Nat) (hx0 : (s.get! 0).toNat = x0) (hf : Lib.firstT x0 = 19) (R K : Nat) (hD : Lib.slowN s.size x0 (s.get! 1).toNat (s.get! 2).toNat (s.get! 3).toNat 3 160 191 = (R, K)) :
    Calls Tryz.prog 164 #[.string s] w fun e w' => e = .returned (.tuple #[.int .i32 R, .int .i64 K]) ∧ Grw w w' := by
  have hb0 : x0 < 256 := by rw [← hx0]; exact (s.get! 0).toNat_lt
  have ht : w.cell? ⟨2, x0, none⟩ = some (.int .u8 19) := by have := hT.1 x0 hb0; rw [hf] at this; exact this
  have hs0 : (s[0]'(by omega)).toNat = x0 := by rw [← hx0, Utf8W.get!_of_lt s 0 (by omega)]
  have HD := Lib.hid hD
  clear hD hx0 hf
  have z1 : (1 : Int) ≤ (s.size : Int) := by omega
  by_cases n1 : s.size < 3
  · have z2 : (s.size : Int) < 3 := by omega
    go_enter Tryz.func164, Tryz.ntmps164
    go_wp2_with (first | ((with_reducible show wpList _ _ _ (⟨_, .alloc 267, _, _, _, _⟩ :: _) _ _); refine wpList_alloc_g rfl 267 rfl (rgArr 0 0) zero267 ?_; intro w1 hB hG1) | ((with_reducible show wpList _ _ _ (⟨_, .load 267 _, _, _, _, _⟩ :: _) _ _); refine wpList_load_mid rfl 267 _ rfl 3 2 rfl [.int .u8 160, .int .u8 191] _ (fun j v hv => by have hj : j < 2 := (List.getElem?_eq_some_iff.1 hv).1; match j, hj with | 0, _ => exact (hT.2 1 (by decide)).1.trans hv | 1, _ => exact (hT.2 1 (by decide)).2.trans hv) Tryz.underlying267 rfl Tryz.size267 ?_) | ((with_reducible show wpList _ _ _ (⟨_, .store 267 _ _, _, _, _, _⟩ :: _) _ _); refine wpList_store_g rfl 267 _ _ rfl _ (rgArr 160 191) _ 267 rfl rfl hB Tryz.size267 rfl (by simp [rgArr, Value.oneCell']) hG1 (Nat.le_refl _) ?_; intro w2 hB2 hO2 hG2; have hc2 : ∀ j, w2.cell? ⟨w.heap.size, j, none⟩ = #[Value.int .u8 160, .int .u8 191][j]? := hB2.cell))
    all_goals go_ret2
    all_goals
      have h := HD.out
      unfold Lib.slowN at h
      (repeat' split at h) <;> first | (exfalso; omega) | (obtain ⟨rfl, rfl⟩ := Prod.mk.inj h; exact ⟨rfl, Grw.trans (Grw.refl _) hG2⟩)
  · have z2 : ¬ (s.size : Int) < 3 := by omega
    have hs1 : s[1]'(by omega) = s.get! 1 := (Utf8W.get!_of_lt s 1 (by omega)).symm
    obtain ⟨x1, hx1⟩ : ∃ x1, s.get! 1 = x1 := ⟨_, rfl⟩
    rw [hx1] at hs1 HD
    have hb1 := x1.toNat_lt
    have hs2 : s[2]'(by omega) = s.get! 2 := (Utf8W.get!_of_lt s 2 (by omega)).symm
    obtain ⟨x2, hx2⟩ : ∃ x2, s.get! 2 = x2 := ⟨_, rfl⟩
    rw [hx2] at hs2 HD
    have hb2 := x2.toNat_lt
    clear hx2
    clear hx1
    go_enter Tryz.func164, Tryz.ntmps164
    go_wp2_with (first | ((with_reducible show wpList _ _ _ (⟨_, .alloc 267, _, _, _, _⟩ :: _) _ _); refine wpList_alloc_g rfl 267 rfl (rgArr 0 0) zero267 ?_; intro w1 hB hG1) | ((with_reducible show wpList _ _ _ (⟨_, .load 267 _, _, _, _, _⟩ :: _) _ _); refine wpList_load_mid rfl 267 _ rfl 3 2 rfl [.int .u8 160, .int .u8 191] _ (fun j v hv => by have hj : j < 2 := (List.getElem?_eq_some_iff.1 hv).1; match j, hj with | 0, _ => exact (hT.2 1 (by decide)).1.trans hv | 1, _ => exact (hT.2 1 (by decide)).2.trans hv) Tryz.underlying267 rfl Tryz.size267 ?_) | ((with_reducible show wpList _ _ _ (⟨_, .store 267 _ _, _, _, _, _⟩ :: _) _ _); refine wpList_store_g rfl 267 _ _ rfl _ (rgArr 160 191) _ 267 rfl rfl hB Tryz.size267 rfl (by simp [rgArr, Value.oneCell']) hG1 (Nat.le_refl _) ?_; intro w2 hB2 hO2 hG2; have hc2 : ∀ j, w2.cell? ⟨w.heap.size, j, none⟩ = #[Value.int .u8 160, .int .u8 191][j]? := hB2.cell))
    all_goals go_ret2
    all_goals
      have h := HD.out
      unfold Lib.slowN at h
      (repeat' split at h) <;> first | (exfalso; omega) | (obtain ⟨rfl, rfl⟩ := Prod.mk.inj h; exact ⟨ret2_eq (by omega) (by omega), hG2⟩)
theorem slow_3 (s : ByteArray) (w : World) (hT : Tabs w) (hn : 1 ≤ s.size) (hn2 : s.size ≤ 4611686018427387904) (x0 : Nat) (hx0 : (s.get! 0).toNat = x0) (hf : Lib.firstT x0 = 3) (R K : Nat) (hD : Lib.slowN s.size x0 (s.get! 1).toNat (s.get! 2).toNat (s.get! 3).toNat 3 128 191 = (R, K)) :
    Calls Tryz.prog 164 #[.string s] w fun e w' => e = .returned (.tuple #[.int .i32 R, .int .i64 K]) ∧ Grw w w' := by
  have hb0 : x0 < 256 := by rw [← hx0]; exact (s.get! 0).toNat_lt
  have ht : w.cell? ⟨2, x0, none⟩ = some (.int .u8 3) := by have := hT.1 x0 hb0; rw [hf] at this; exact this
  have hs0 : (s[0]'(by omega)).toNat = x0 := by rw [← hx0, Utf8W.get!_of_lt s 0 (by omega)]
  have HD := Lib.hid hD
  clear hD hx0 hf
  have z1 : (1 : Int) ≤ (s.size : Int) := by omega
  by_cases n1 : s.size < 3
  · have z2 : (s.size : Int) < 3 := by omega
    go_enter Tryz.func164, Tryz.ntmps164
    go_wp2_with (first | ((with_reducible show wpList _ _ _ (⟨_, .alloc 267, _, _, _, _⟩ :: _) _ _); refine wpList_alloc_g rfl 267 rfl (rgArr 0 0) zero267 ?_; intro w1 hB hG1) | ((with_reducible show wpList _ _ _ (⟨_, .load 267 _, _, _, _, _⟩ :: _) _ _); refine wpList_load_mid rfl 267 _ rfl 3 0 rfl [.int .u8 128, .int .u8 191] _ (fun j v hv => by have hj : j < 2 := (List.getElem?_eq_some_iff.1 hv).1; match j, hj with | 0, _ => exact (hT.2 0 (by decide)).1.trans hv | 1, _ => exact (hT.2 0 (by decide)).2.trans hv) Tryz.underlying267 rfl Tryz.size267 ?_) | ((with_reducible show wpList _ _ _ (⟨_, .store 267 _ _, _, _, _, _⟩ :: _) _ _); refine wpList_store_g rfl 267 _ _ rfl _ (rgArr 128 191) _ 267 rfl rfl hB Tryz.size267 rfl (by simp [rgArr, Value.oneCell']) hG1 (Nat.le_refl _) ?_; intro w2 hB2 hO2 hG2; have hc2 : ∀ j, w2.cell? ⟨w.heap.size, j, none⟩ = #[Value.int .u8 128, .int .u8 191][j]? := hB2.cell))
    all_goals go_ret2
    all_goals
      have h := HD.out
      unfold Lib.slowN at h
      (repeat' split at h) <;> first | (exfalso; omega) | (obtain ⟨rfl, rfl⟩ := Prod.mk.inj h; exact ⟨rfl, Grw.trans (Grw.refl _) hG2⟩)
  · have z2 : ¬ (s.size : Int) < 3 := by omega
    have hs1 : s[1]'(by omega) = s.get! 1 := (Utf8W.get!_of_lt s 1 (by omega)).symm
    obtain ⟨x1, hx1⟩ : ∃ x1, s.get! 1 = x1 := ⟨_, rfl⟩
    rw [hx1] at hs1 HD
    have hb1 := x1.toNat_lt
    have hs2 : s[2]'(by omega) = s.get! 2 := (Utf8W.get!_of_lt s 2 (by omega)).symm
    obtain ⟨x2, hx2⟩ : ∃ x2, s.get! 2 = x2 := ⟨_, rfl⟩
    rw [hx2] at hs2 HD
    have hb2 := x2.toNat_lt
    clear hx2
    clear hx1
    go_enter Tryz.func164, Tryz.ntmps164
    go_wp2_with (first | ((with_reducible show wpList _ _ _ (⟨_, .alloc 267, _, _, _, _⟩ :: _) _ _); refine wpList_alloc_g rfl 267 rfl (rgArr 0 0) zero267 ?_; intro w1 hB hG1) | ((with_reducible show wpList _ _ _ (⟨_, .load 267 _, _, _, _, _⟩ :: _) _ _); refine wpList_load_mid rfl 267 _ rfl 3 0 rfl [.int .u8 128, .int .u8 191] _ (fun j v hv => by have hj : j < 2 := (List.getElem?_eq_some_iff.1 hv).1; match j, hj with | 0, _ => exact (hT.2 0 (by decide)).1.trans hv | 1, _ => exact (hT.2 0 (by decide)).2.trans hv) Tryz.underlying267 rfl Tryz.size267 ?_) | ((with_reducible show wpList _ _ _ (⟨_, .store 267 _ _, _, _, _, _⟩ :: _) _ _); refine wpList_store_g rfl 267 _ _ rfl _ (rgArr 128 191) _ 267 rfl rfl hB Tryz.size267 rfl (by simp [rgArr, Value.oneCell']) hG1 (Nat.le_refl _) ?_; intro w2 hB2 hO2 hG2; have hc2 : ∀ j, w2.cell? ⟨w.heap.size, j, none⟩ = #[Value.int .u8 128, .int .u8 191][j]? := hB2.cell))
    all_goals go_ret2
    all_goals
      have h := HD.out
      unfold Lib.slowN at h
      (repeat' split at h) <;> first | (exfalso; omega) | (obtain ⟨rfl, rfl⟩ := Prod.mk.inj h; exact ⟨ret2_eq (by omega) (by omega), hG2⟩)
theorem slow_35 (s : ByteArray) (w : World) (hT : Tabs w) (hn : 1 ≤ s.size) (hn2 : s.size ≤ 4611686018427387904) (x0 : Nat) (hx0 : (s.get! 0).toNat = x0) (hf : Lib.firstT x0 = 35) (R K : Nat) (hD : Lib.slowN s.size x0 (s.get! 1).toNat (s.get! 2).toNat (s.get! 3).toNat 3 128 159 = (R, K)) :
    Calls Tryz.prog 164 #[.string s] w fun e w' => e = .returned (.tuple #[.int .i32 R, .int .i64 K]) ∧ Grw w w' := by
  have hb0 : x0 < 256 := by rw [← hx0]; exact (s.get! 0).toNat_lt
  have ht : w.cell? ⟨2, x0, none⟩ = some (.int .u8 35) := by have := hT.1 x0 hb0; rw [hf] at this; exact this
  have hs0 : (s[0]'(by omega)).toNat = x0 := by rw [← hx0, Utf8W.get!_of_lt s 0 (by omega)]
  have HD := Lib.hid hD
  clear hD hx0 hf
  have z1 : (1 : Int) ≤ (s.size : Int) := by omega
  by_cases n1 : s.size < 3
  · have z2 : (s.size : Int) < 3 := by omega
    go_enter Tryz.func164, Tryz.ntmps164
    go_wp2_with (first | ((with_reducible show wpList _ _ _ (⟨_, .alloc 267, _, _, _, _⟩ :: _) _ _); refine wpList_alloc_g rfl 267 rfl (rgArr 0 0) zero267 ?_; intro w1 hB hG1) | ((with_reducible show wpList _ _ _ (⟨_, .load 267 _, _, _, _, _⟩ :: _) _ _); refine wpList_load_mid rfl 267 _ rfl 3 4 rfl [.int .u8 128, .int .u8 159] _ (fun j v hv => by have hj : j < 2 := (List.getElem?_eq_some_iff.1 hv).1; match j, hj with | 0, _ => exact (hT.2 2 (by decide)).1.trans hv | 1, _ => exact (hT.2 2 (by decide)).2.trans hv) Tryz.underlying267 rfl Tryz.size267 ?_) | ((with_reducible show wpList _ _ _ (⟨_, .store 267 _ _, _, _, _, _⟩ :: _) _ _); refine wpList_store_g rfl 267 _ _ rfl _ (rgArr 128 159) _ 267 rfl rfl hB Tryz.size267 rfl (by simp [rgArr, Value.oneCell']) hG1 (Nat.le_refl _) ?_; intro w2 hB2 hO2 hG2; have hc2 : ∀ j, w2.cell? ⟨w.heap.size, j, none⟩ = #[Value.int .u8 128, .int .u8 159][j]? := hB2.cell))
    all_goals go_ret2
    all_goals
      have h := HD.out
      unfold Lib.slowN at h
      (repeat' split at h) <;> first | (exfalso; omega) | (obtain ⟨rfl, rfl⟩ := Prod.mk.inj h; exact ⟨rfl, Grw.trans (Grw.refl _) hG2⟩)
  · have z2 : ¬ (s.size : Int) < 3 := by omega
    have hs1 : s[1]'(by omega) = s.get! 1 := (Utf8W.get!_of_lt s 1 (by omega)).symm
    obtain ⟨x1, hx1⟩ : ∃ x1, s.get! 1 = x1 := ⟨_, rfl⟩
    rw [hx1] at hs1 HD
    have hb1 := x1.toNat_lt
    have hs2 : s[2]'(by omega) = s.get! 2 := (Utf8W.get!_of_lt s 2 (by omega)).symm
    obtain ⟨x2, hx2⟩ : ∃ x2, s.get! 2 = x2 := ⟨_, rfl⟩
    rw [hx2] at hs2 HD
    have hb2 := x2.toNat_lt
    clear hx2
    clear hx1
    go_enter Tryz.func164, Tryz.ntmps164
    go_wp2_with (first | ((with_reducible show wpList _ _ _ (⟨_, .alloc 267, _, _, _, _⟩ :: _) _ _); refine wpList_alloc_g rfl 267 rfl (rgArr 0 0) zero267 ?_; intro w1 hB hG1) | ((with_reducible show wpList _ _ _ (⟨_, .load 267 _, _, _, _, _⟩ :: _) _ _); refine wpList_load_mid rfl 267 _ rfl 3 4 rfl [.int .u8 128, .int .u8 159] _ (fun j v hv => by have hj : j < 2 := (List.getElem?_eq_some_iff.1 hv).1; match j, hj with | 0, _ => exact (hT.2 2 (by decide)).1.trans hv | 1, _ => exact (hT.2 2 (by decide)).2.trans hv) Tryz.underlying267 rfl Tryz.size267 ?_) | ((with_reducible show wpList _ _ _ (⟨_, .store 267 _ _, _, _, _, _⟩ :: _) _ _); refine wpList_store_g rfl 267 _ _ rfl _ (rgArr 128 159) _ 267 rfl rfl hB Tryz.size267 rfl (by simp [rgArr, Value.oneCell']) hG1 (Nat.le_refl _) ?_; intro w2 hB2 hO2 hG2; have hc2 : ∀ j, w2.cell? ⟨w.heap.size, j, none⟩ = #[Value.int .u8 128, .int .u8 159][j]? := hB2.cell))
    all_goals go_ret2
    all_goals
      have h := HD.out
      unfold Lib.slowN at h
      (repeat' split at h) <;> first | (exfalso; omega) | (obtain ⟨rfl, rfl⟩ := Prod.mk.inj h; exact ⟨ret2_eq (by omega) (by omega), hG2⟩)
theorem slow_52 (s : ByteArray) (w : World) (hT : Tabs w) (hn : 1 ≤ s.size) (hn2 : s.size ≤ 4611686018427387904) (x0 : Nat) (hx0 : (s.get! 0).toNat = x0) (hf : Lib.firstT x0 = 52) (R K : Nat) (hD : Lib.slowN s.size x0 (s.get! 1).toNat (s.get! 2).toNat (s.get! 3).toNat 4 144 191 = (R, K)) :
    Calls Tryz.prog 164 #[.string s] w fun e w' => e = .returned (.tuple #[.int .i32 R, .int .i64 K]) ∧ Grw w w' := by
  have hb0 : x0 < 256 := by rw [← hx0]; exact (s.get! 0).toNat_lt
  have ht : w.cell? ⟨2, x0, none⟩ = some (.int .u8 52) := by have := hT.1 x0 hb0; rw [hf] at this; exact this
  have hs0 : (s[0]'(by omega)).toNat = x0 := by rw [← hx0, Utf8W.get!_of_lt s 0 (by omega)]
  have HD := Lib.hid hD
  clear hD hx0 hf
  have z1 : (1 : Int) ≤ (s.size : Int) := by omega
  by_cases n1 : s.size < 4
  · have z2 : (s.size : Int) < 4 := by omega
    go_enter Tryz.func164, Tryz.ntmps164
    go_wp2_with (first | ((with_reducible show wpList _ _ _ (⟨_, .alloc 267, _, _, _, _⟩ :: _) _ _); refine wpList_alloc_g rfl 267 rfl (rgArr 0 0) zero267 ?_; intro w1 hB hG1) | ((with_reducible show wpList _ _ _ (⟨_, .load 267 _, _, _, _, _⟩ :: _) _ _); refine wpList_load_mid rfl 267 _ rfl 3 6 rfl [.int .u8 144, .int .u8 191] _ (fun j v hv => by have hj : j < 2 := (List.getElem?_eq_some_iff.1 hv).1; match j, hj with | 0, _ => exact (hT.2 3 (by decide)).1.trans hv | 1, _ => exact (hT.2 3 (by decide)).2.trans hv) Tryz.underlying267 rfl Tryz.size267 ?_) | ((with_reducible show wpList _ _ _ (⟨_, .store 267 _ _, _, _, _, _⟩ :: _) _ _); refine wpList_store_g rfl 267 _ _ rfl _ (rgArr 144 191) _ 267 rfl rfl hB Tryz.size267 rfl (by simp [rgArr, Value.oneCell']) hG1 (Nat.le_refl _) ?_; intro w2 hB2 hO2 hG2; have hc2 : ∀ j, w2.cell? ⟨w.heap.size, j, none⟩ = #[Value.int .u8 144, .int .u8 191][j]? := hB2.cell))
    all_goals go_ret2
    all_goals
      have h := HD.out
      unfold Lib.slowN at h
      (repeat' split at h) <;> first | (exfalso; omega) | (obtain ⟨rfl, rfl⟩ := Prod.mk.inj h; exact ⟨rfl, Grw.trans (Grw.refl _) hG2⟩)
  · have z2 : ¬ (s.size : Int) < 4 := by omega
    have hs1 : s[1]'(by omega) = s.get! 1 := (Utf8W.get!_of_lt s 1 (by omega)).symm
    obtain ⟨x1, hx1⟩ : ∃ x1, s.get! 1 = x1 := ⟨_, rfl⟩
    rw [hx1] at hs1 HD
    have hb1 := x1.toNat_lt
    have hs2 : s[2]'(by omega) = s.get! 2 := (Utf8W.get!_of_lt s 2 (by omega)).symm
    obtain ⟨x2, hx2⟩ : ∃ x2, s.get! 2 = x2 := ⟨_, rfl⟩
    rw [hx2] at hs2 HD
    have hb2 := x2.toNat_lt
    clear hx2
    have hs3 : s[3]'(by omega) = s.get! 3 := (Utf8W.get!_of_lt s 3 (by omega)).symm
    obtain ⟨x3, hx3⟩ : ∃ x3, s.get! 3 = x3 := ⟨_, rfl⟩
    rw [hx3] at hs3 HD
    have hb3 := x3.toNat_lt
    clear hx3
    clear hx1
    go_enter Tryz.func164, Tryz.ntmps164
    go_wp2_with (first | ((with_reducible show wpList _ _ _ (⟨_, .alloc 267, _, _, _, _⟩ :: _) _ _); refine wpList_alloc_g rfl 267 rfl (rgArr 0 0) zero267 ?_; intro w1 hB hG1) | ((with_reducible show wpList _ _ _ (⟨_, .load 267 _, _, _, _, _⟩ :: _) _ _); refine wpList_load_mid rfl 267 _ rfl 3 6 rfl [.int .u8 144, .int .u8 191] _ (fun j v hv => by have hj : j < 2 := (List.getElem?_eq_some_iff.1 hv).1; match j, hj with | 0, _ => exact (hT.2 3 (by decide)).1.trans hv | 1, _ => exact (hT.2 3 (by decide)).2.trans hv) Tryz.underlying267 rfl Tryz.size267 ?_) | ((with_reducible show wpList _ _ _ (⟨_, .store 267 _ _, _, _, _, _⟩ :: _) _ _); refine wpList_store_g rfl 267 _ _ rfl _ (rgArr 144 191) _ 267 rfl rfl hB Tryz.size267 rfl (by simp [rgArr, Value.oneCell']) hG1 (Nat.le_refl _) ?_; intro w2 hB2 hO2 hG2; have hc2 : ∀ j, w2.cell? ⟨w.heap.size, j, none⟩ = #[Value.int .u8 144, .int .u8 191][j]? := hB2.cell))
    all_goals go_ret2
    all_goals
      have h := HD.out
      unfold Lib.slowN at h
      (repeat' split at h) <;> first | (exfalso; omega) | (obtain ⟨rfl, rfl⟩ := Prod.mk.inj h; exact ⟨ret2_eq (by omega) (by omega), hG2⟩)
theorem slow_4 (s : ByteArray) (w : World) (hT : Tabs w) (hn : 1 ≤ s.size) (hn2 : s.size ≤ 4611686018427387904) (x0 : Nat) (hx0 : (s.get! 0).toNat = x0) (hf : Lib.firstT x0 = 4) (R K : Nat) (hD : Lib.slowN s.size x0 (s.get! 1).toNat (s.get! 2).toNat (s.get! 3).toNat 4 128 191 = (R, K)) :
    Calls Tryz.prog 164 #[.string s] w fun e w' => e = .returned (.tuple #[.int .i32 R, .int .i64 K]) ∧ Grw w w' := by
  have hb0 : x0 < 256 := by rw [← hx0]; exact (s.get! 0).toNat_lt
  have ht : w.cell? ⟨2, x0, none⟩ = some (.int .u8 4) := by have := hT.1 x0 hb0; rw [hf] at this; exact this
  have hs0 : (s[0]'(by omega)).toNat = x0 := by rw [← hx0, Utf8W.get!_of_lt s 0 (by omega)]
  have HD := Lib.hid hD
  clear hD hx0 hf
  have z1 : (1 : Int) ≤ (s.size : Int) := by omega
  by_cases n1 : s.size < 4
  · have z2 : (s.size : Int) < 4 := by omega
    go_enter Tryz.func164, Tryz.ntmps164
    go_wp2_with (first | ((with_reducible show wpList _ _ _ (⟨_, .alloc 267, _, _, _, _⟩ :: _) _ _); refine wpList_alloc_g rfl 267 rfl (rgArr 0 0) zero267 ?_; intro w1 hB hG1) | ((with_reducible show wpList _ _ _ (⟨_, .load 267 _, _, _, _, _⟩ :: _) _ _); refine wpList_load_mid rfl 267 _ rfl 3 0 rfl [.int .u8 128, .int .u8 191] _ (fun j v hv => by have hj : j < 2 := (List.getElem?_eq_some_iff.1 hv).1; match j, hj with | 0, _ => exact (hT.2 0 (by decide)).1.trans hv | 1, _ => exact (hT.2 0 (by decide)).2.trans hv) Tryz.underlying267 rfl Tryz.size267 ?_) | ((with_reducible show wpList _ _ _ (⟨_, .store 267 _ _, _, _, _, _⟩ :: _) _ _); refine wpList_store_g rfl 267 _ _ rfl _ (rgArr 128 191) _ 267 rfl rfl hB Tryz.size267 rfl (by simp [rgArr, Value.oneCell']) hG1 (Nat.le_refl _) ?_; intro w2 hB2 hO2 hG2; have hc2 : ∀ j, w2.cell? ⟨w.heap.size, j, none⟩ = #[Value.int .u8 128, .int .u8 191][j]? := hB2.cell))
    all_goals go_ret2
    all_goals
      have h := HD.out
      unfold Lib.slowN at h
      (repeat' split at h) <;> first | (exfalso; omega) | (obtain ⟨rfl, rfl⟩ := Prod.mk.inj h; exact ⟨rfl, Grw.trans (Grw.refl _) hG2⟩)
  · have z2 : ¬ (s.size : Int) < 4 := by omega
    have hs1 : s[1]'(by omega) = s.get! 1 := (Utf8W.get!_of_lt s 1 (by omega)).symm
    obtain ⟨x1, hx1⟩ : ∃ x1, s.get! 1 = x1 := ⟨_, rfl⟩
    rw [hx1] at hs1 HD
    have hb1 := x1.toNat_lt
    have hs2 : s[2]'(by omega) = s.get! 2 := (Utf8W.get!_of_lt s 2 (by omega)).symm
    obtain ⟨x2, hx2⟩ : ∃ x2, s.get! 2 = x2 := ⟨_, rfl⟩
    rw [hx2] at hs2 HD
    have hb2 := x2.toNat_lt
    clear hx2
    have hs3 : s[3]'(by omega) = s.get! 3 := (Utf8W.get!_of_lt s 3 (by omega)).symm
    obtain ⟨x3, hx3⟩ : ∃ x3, s.get! 3 = x3 := ⟨_, rfl⟩
    rw [hx3] at hs3 HD
    have hb3 := x3.toNat_lt
    clear hx3
    clear hx1
    go_enter Tryz.func164, Tryz.ntmps164
    go_wp2_with (first | ((with_reducible show wpList _ _ _ (⟨_, .alloc 267, _, _, _, _⟩ :: _) _ _); refine wpList_alloc_g rfl 267 rfl (rgArr 0 0) zero267 ?_; intro w1 hB hG1) | ((with_reducible show wpList _ _ _ (⟨_, .load 267 _, _, _, _, _⟩ :: _) _ _); refine wpList_load_mid rfl 267 _ rfl 3 0 rfl [.int .u8 128, .int .u8 191] _ (fun j v hv => by have hj : j < 2 := (List.getElem?_eq_some_iff.1 hv).1; match j, hj with | 0, _ => exact (hT.2 0 (by decide)).1.trans hv | 1, _ => exact (hT.2 0 (by decide)).2.trans hv) Tryz.underlying267 rfl Tryz.size267 ?_) | ((with_reducible show wpList _ _ _ (⟨_, .store 267 _ _, _, _, _, _⟩ :: _) _ _); refine wpList_store_g rfl 267 _ _ rfl _ (rgArr 128 191) _ 267 rfl rfl hB Tryz.size267 rfl (by simp [rgArr, Value.oneCell']) hG1 (Nat.le_refl _) ?_; intro w2 hB2 hO2 hG2; have hc2 : ∀ j, w2.cell? ⟨w.heap.size, j, none⟩ = #[Value.int .u8 128, .int .u8 191][j]? := hB2.cell))
    all_goals go_ret2
    all_goals
      have h := HD.out
      unfold Lib.slowN at h
      (repeat' split at h) <;> first | (exfalso; omega) | (obtain ⟨rfl, rfl⟩ := Prod.mk.inj h; exact ⟨ret2_eq (by omega) (by omega), hG2⟩)
theorem slow_68 (s : ByteArray) (w : World) (hT : Tabs w) (hn : 1 ≤ s.size) (hn2 : s.size ≤ 4611686018427387904) (x0 : Nat) (hx0 : (s.get! 0).toNat = x0) (hf : Lib.firstT x0 = 68) (R K : Nat) (hD : Lib.slowN s.size x0 (s.get! 1).toNat (s.get! 2).toNat (s.get! 3).toNat 4 128 143 = (R, K)) :
    Calls Tryz.prog 164 #[.string s] w fun e w' => e = .returned (.tuple #[.int .i32 R, .int .i64 K]) ∧ Grw w w' := by
  have hb0 : x0 < 256 := by rw [← hx0]; exact (s.get! 0).toNat_lt
  have ht : w.cell? ⟨2, x0, none⟩ = some (.int .u8 68) := by have := hT.1 x0 hb0; rw [hf] at this; exact this
  have hs0 : (s[0]'(by omega)).toNat = x0 := by rw [← hx0, Utf8W.get!_of_lt s 0 (by omega)]
  have HD := Lib.hid hD
  clear hD hx0 hf
  have z1 : (1 : Int) ≤ (s.size : Int) := by omega
  by_cases n1 : s.size < 4
  · have z2 : (s.size : Int) < 4 := by omega
    go_enter Tryz.func164, Tryz.ntmps164
    go_wp2_with (first | ((with_reducible show wpList _ _ _ (⟨_, .alloc 267, _, _, _, _⟩ :: _) _ _); refine wpList_alloc_g rfl 267 rfl (rgArr 0 0) zero267 ?_; intro w1 hB hG1) | ((with_reducible show wpList _ _ _ (⟨_, .load 267 _, _, _, _, _⟩ :: _) _ _); refine wpList_load_mid rfl 267 _ rfl 3 8 rfl [.int .u8 128, .int .u8 143] _ (fun j v hv => by have hj : j < 2 := (List.getElem?_eq_some_iff.1 hv).1; match j, hj with | 0, _ => exact (hT.2 4 (by decide)).1.trans hv | 1, _ => exact (hT.2 4 (by decide)).2.trans hv) Tryz.underlying267 rfl Tryz.size267 ?_) | ((with_reducible show wpList _ _ _ (⟨_, .store 267 _ _, _, _, _, _⟩ :: _) _ _); refine wpList_store_g rfl 267 _ _ rfl _ (rgArr 128 143) _ 267 rfl rfl hB Tryz.size267 rfl (by simp [rgArr, Value.oneCell']) hG1 (Nat.le_refl _) ?_; intro w2 hB2 hO2 hG2; have hc2 : ∀ j, w2.cell? ⟨w.heap.size, j, none⟩ = #[Value.int .u8 128, .int .u8 143][j]? := hB2.cell))
    all_goals go_ret2
    all_goals
      have h := HD.out
      unfold Lib.slowN at h
      (repeat' split at h) <;> first | (exfalso; omega) | (obtain ⟨rfl, rfl⟩ := Prod.mk.inj h; exact ⟨rfl, Grw.trans (Grw.refl _) hG2⟩)
  · have z2 : ¬ (s.size : Int) < 4 := by omega
    have hs1 : s[1]'(by omega) = s.get! 1 := (Utf8W.get!_of_lt s 1 (by omega)).symm
    obtain ⟨x1, hx1⟩ : ∃ x1, s.get! 1 = x1 := ⟨_, rfl⟩
    rw [hx1] at hs1 HD
    have hb1 := x1.toNat_lt
    have hs2 : s[2]'(by omega) = s.get! 2 := (Utf8W.get!_of_lt s 2 (by omega)).symm
    obtain ⟨x2, hx2⟩ : ∃ x2, s.get! 2 = x2 := ⟨_, rfl⟩
    rw [hx2] at hs2 HD
    have hb2 := x2.toNat_lt
    clear hx2
    have hs3 : s[3]'(by omega) = s.get! 3 := (Utf8W.get!_of_lt s 3 (by omega)).symm
    obtain ⟨x3, hx3⟩ : ∃ x3, s.get! 3 = x3 := ⟨_, rfl⟩
    rw [hx3] at hs3 HD
    have hb3 := x3.toNat_lt
    clear hx3
    clear hx1
    go_enter Tryz.func164, Tryz.ntmps164
    go_wp2_with (first | ((with_reducible show wpList _ _ _ (⟨_, .alloc 267, _, _, _, _⟩ :: _) _ _); refine wpList_alloc_g rfl 267 rfl (rgArr 0 0) zero267 ?_; intro w1 hB hG1) | ((with_reducible show wpList _ _ _ (⟨_, .load 267 _, _, _, _, _⟩ :: _) _ _); refine wpList_load_mid rfl 267 _ rfl 3 8 rfl [.int .u8 128, .int .u8 143] _ (fun j v hv => by have hj : j < 2 := (List.getElem?_eq_some_iff.1 hv).1; match j, hj with | 0, _ => exact (hT.2 4 (by decide)).1.trans hv | 1, _ => exact (hT.2 4 (by decide)).2.trans hv) Tryz.underlying267 rfl Tryz.size267 ?_) | ((with_reducible show wpList _ _ _ (⟨_, .store 267 _ _, _, _, _, _⟩ :: _) _ _); refine wpList_store_g rfl 267 _ _ rfl _ (rgArr 128 143) _ 267 rfl rfl hB Tryz.size267 rfl (by simp [rgArr, Value.oneCell']) hG1 (Nat.le_refl _) ?_; intro w2 hB2 hO2 hG2; have hc2 : ∀ j, w2.cell? ⟨w.heap.size, j, none⟩ = #[Value.int .u8 128, .int .u8 143][j]? := hB2.cell))
    all_goals go_ret2
    all_goals
      have h := HD.out
      unfold Lib.slowN at h
      (repeat' split at h) <;> first | (exfalso; omega) | (obtain ⟨rfl, rfl⟩ := Prod.mk.inj h; exact ⟨ret2_eq (by omega) (by omega), hG2⟩)
theorem mask_all : ((List.range 256).all fun x => bits .or .i32 (bits .andNot .i32 (x : Int) (wrap32 517543559168 / 2147483648)) (bits .and .i32 65533 (wrap32 517543559168 / 2147483648)) == 65533) = true := by kernel_rfl
theorem slow_241 (s : ByteArray) (w : World) (hT : Tabs w) (hn : 1 ≤ s.size) (hn2 : s.size ≤ 4611686018427387904) (x0 : Nat) (hx0 : (s.get! 0).toNat = x0) (hf : Lib.firstT x0 = 241) :
    Calls Tryz.prog 164 #[.string s] w fun e w' => e = .returned (.tuple #[.int .i32 65533, .int .i64 1]) ∧ Grw w w' := by
  have hb0 : x0 < 256 := by rw [← hx0]; exact (s.get! 0).toNat_lt
  have ht : w.cell? ⟨2, x0, none⟩ = some (.int .u8 241) := by have := hT.1 x0 hb0; rw [hf] at this; exact this
  have hs0 : (s[0]'(by omega)).toNat = x0 := by rw [← hx0, Utf8W.get!_of_lt s 0 (by omega)]
  have z1 : (1 : Int) ≤ (s.size : Int) := by omega
  have hmask : bits .or .i32 (bits .andNot .i32 (x0 : Int) (wrap32 517543559168 / 2147483648)) (bits .and .i32 65533 (wrap32 517543559168 / 2147483648)) = 65533 := by simpa using List.all_eq_true.1 mask_all x0 (List.mem_range.2 hb0)
  have HM := Lib.hid hmask
  clear hmask
  clear hx0 hf hT
  go_enter Tryz.func164, Tryz.ntmps164
  go_wp2
  go_ret2
  exact ⟨ret2_eq HM.out rfl, Grw.refl _⟩

theorem slow_empty (s : ByteArray) (w : World) (hn : s.size = 0) : Calls Tryz.prog 164 #[.string s] w fun e w' => e = .returned (.tuple #[.int .i32 65533, .int .i64 0]) ∧ Grw w w' := by
  have z1 : (s.size : Int) < 1 := by omega
  have z2 : ¬ (1 : Int) ≤ (s.size : Int) := by omega
  clear hn
  go_enter Tryz.func164, Tryz.ntmps164
  go_wp2
  go_ret2
  exact ⟨rfl, Grw.refl _⟩

theorem slow_dec (s : ByteArray) (w : World) (hT : Tabs w) (hn2 : s.size ≤ 4611686018427387904) (h : s.size = 0 ∨ 128 ≤ (s.get! 0).toNat) : Calls Tryz.prog 164 #[.string s] w fun e w' => e = .returned (.tuple #[.int .i32 (Lib.decodeGo s).1, .int .i64 (Lib.decodeGo s).2]) ∧ Grw w w' := by
  by_cases h0 : s.size = 0
  · have e : Lib.decodeGo s = (65533, 0) := by unfold Lib.decodeGo; rw [if_pos h0]
    rw [e]
    exact slow_empty s w h0
  · have h1 : 128 ≤ (s.get! 0).toNat := by rcases h with h | h; exact absurd h h0; exact h
    have e : Lib.decodeGo s = Lib.decodeN s.size (s.get! 0).toNat (s.get! 1).toNat (s.get! 2).toNat (s.get! 3).toNat := by
      unfold Lib.decodeGo; rw [if_neg h0, Lib.decode_at]; rfl
    have hb := (s.get! 0).toNat_lt
    have b1 := (s.get! 1).toNat_lt
    have b2 := (s.get! 2).toNat_lt
    have b3 := (s.get! 3).toNat_lt
    by_cases hf : Lib.firstT (s.get! 0).toNat = 241
    · rw [e, Lib.bad_eq _ _ _ _ _ hb hf]
      exact slow_241 s w hT (by omega) hn2 _ rfl hf
    · have hlt : Lib.firstT (s.get! 0).toNat < 240 := by
        rcases Lib.firstT_cases (s.get! 0).toNat with h | h | h | h | h | h | h | h | h <;> first | omega | skip
        unfold Lib.firstT at h
        repeat' split at h
        all_goals omega
      have hs := Lib.slow_eq s.size _ _ _ _ (by omega) b1 b2 b3 hlt
      rw [← e] at hs
      rcases Lib.firstT_cases (s.get! 0).toNat with h | h | h | h | h | h | h | h | h
      · omega
      · omega
      · rw [h] at hs; exact slow_2 s w hT (by omega) hn2 _ rfl h _ _ hs
      · rw [h] at hs; exact slow_19 s w hT (by omega) hn2 _ rfl h _ _ hs
      · rw [h] at hs; exact slow_3 s w hT (by omega) hn2 _ rfl h _ _ hs
      · rw [h] at hs; exact slow_35 s w hT (by omega) hn2 _ rfl h _ _ hs
      · rw [h] at hs; exact slow_52 s w hT (by omega) hn2 _ rfl h _ _ hs
      · rw [h] at hs; exact slow_4 s w hT (by omega) hn2 _ rfl h _ _ hs
      · rw [h] at hs; exact slow_68 s w hT (by omega) hn2 _ rfl h _ _ hs
theorem decode_g (s : ByteArray) (w : World) (hT : Tabs w) (hn2 : s.size ≤ 4611686018427387904) :
    Calls Tryz.prog 138 #[.string s] w fun e w' => e = .returned (.tuple #[.int .i32 (Lib.decodeGo s).1, .int .i64 (Lib.decodeGo s).2]) ∧ Grw w w' := by
  by_cases h0 : s.size = 0
  · have cS := slow_dec s w hT hn2 (.inl h0)
    have e0 : s = ⟨#[]⟩ := by
      apply ByteArray.ext
      exact Array.eq_empty_of_size_eq_zero h0
    subst e0
    clear h0 hT
    go_enter Tryz.func138, Tryz.ntmps138
    go_wp2_with (go_at_call 164; refine cS.mono ?_; rintro e w' ⟨rfl, hb⟩)
    go_ret2
    exact ⟨rfl, hb⟩
  · have hs0 : s[0]'(by omega) = s.get! 0 := (Utf8W.get!_of_lt s 0 (by omega)).symm
    have hnil : ¬ s.toList = [] := by
      rw [ByteArray.toList_eq]
      intro h
      have := congrArg List.length h
      simp at this
      exact h0 (by rw [ByteArray.size, this]; rfl)
    have hne : s.toList.isEmpty = false := by
      cases hh : s.toList with
      | nil => exact absurd hh hnil
      | cons => rfl
    have z1 : (1 : Int) ≤ (s.size : Int) := by omega
    by_cases h1 : 128 ≤ (s.get! 0).toNat
    · have cS := slow_dec s w hT hn2 (.inr h1)
      obtain ⟨x0, hx0⟩ : ∃ x0, s.get! 0 = x0 := ⟨_, rfl⟩
      rw [hx0] at hs0 h1
      have h2 : ¬ (x0.toNat : Int) < 128 := by omega
      clear hT h1
      go_enter Tryz.func138, Tryz.ntmps138
      go_wp2_with (go_at_call 164; refine cS.mono ?_; rintro e w' ⟨rfl, hb⟩)
      all_goals go_ret2
      all_goals exact ⟨rfl, hb⟩
    · have e : Lib.decodeGo s = ((s.get! 0).toNat, 1) := by
        unfold Lib.decodeGo; rw [if_neg h0, Lib.decode_at]
        unfold Lib.decodeN
        rw [if_pos (show (s.get! 0).toNat < 128 by omega)]
      rw [e]
      obtain ⟨x0, hx0⟩ : ∃ x0, s.get! 0 = x0 := ⟨_, rfl⟩
      rw [hx0] at hs0 h1 ⊢
      have h2 : (x0.toNat : Int) < 128 := by omega
      clear hT h1 e
      go_enter Tryz.func138, Tryz.ntmps138
      go_wp2
      go_ret2
      exact ⟨ret2_eq (by first | rfl | omega) rfl, Grw.refl _⟩

end Go.Proofs.YtoalboilghgalaaGreatDoor
